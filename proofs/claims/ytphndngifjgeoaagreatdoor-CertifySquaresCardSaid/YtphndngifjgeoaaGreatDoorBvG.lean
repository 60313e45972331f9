/- The by-value logic, part G: boxes, new slices, stores and calls are the model's; for every program. -/
import Derived.Test.YtphndngifjgeoaaGreatDoorBvF
import Derived.IntWalk
set_option linter.unusedVariables false
set_option linter.unusedSimpArgs false
namespace Go.Proofs.YtphndngifjgeoaaGreatDoor
section
variable {P : Program} {bm : List Nat} {L : Lay} {s : St} {a : Act} {w : World}

theorem sized_one {p : PV} {v : Value} (h : VRel bm L w p v) (hs : p.sized = true) (hc : p.cells.all PV.isCell = true) : LRel bm L w p.cells v.cells.toList ∧ ∀ u ∈ v.cells.toList, u.oneCell' = true := by
  have hl := h.cells hs
  refine ⟨hl, fun u hu => ?_⟩
  obtain ⟨j, hj⟩ := List.mem_iff_getElem?.1 hu
  have hlt : j < p.cells.length := by rw [hl.length]; exact (List.getElem?_eq_some_iff.1 hj).1
  obtain ⟨u', hu', hr⟩ := hl.get j _ (List.getElem?_eq_getElem hlt)
  rw [hj] at hu'; cases hu'
  exact hr.oneCell (List.all_eq_true.1 hc _ (List.getElem_mem hlt))

theorem alloc_sound (h : Sim bm L s a w) (o : Oper) (t : TypeId) (ho : o.op = .alloc t) {z : PV} (hz : tzero P t = some z) (hs : z.sized = true) (hc : aOk P t z = true) :
    ∃ w' V bm', (execOp a.eval o).run P w = .ok (.value V) w' ∧ Sim bm' L (s.pushBox z.cells) a w' ∧ Gua bm bm' s.n0 s.D L w L w' ∧ VRel bm' L w' (.box s.boxes.length 0) V := by
  unfold tzero at hz
  cases hi : P.info? t with
  | none => simp [hi] at hz
  | some i =>
    cases hzv : i.zero with
    | none => simp [hi, hzv] at hz
    | some zv =>
      simp [hi, hzv] at hz; subst hz
      have h1 := (ofConst_rel bm L w zv).cells hs
      have h2 : ∀ u ∈ zv.cells.toList, u.oneCell' = true := by
        unfold aOk at hc
        rcases Bool.or_eq_true_iff.1 hc with hc | hc
        · exact (sized_one (ofConst_rel bm L w zv) hs hc).2
        · simp only [hi, hzv, Option.bind_some] at hc
          exact fun u hu => List.all_eq_true.1 hc u hu
      have hw : ({ w with heap := w.heap.push (.cells zv.cells t) } : World).heap = w.heap.push (.cells zv.cells t (0, 0)) := rfl
      refine ⟨{ w with heap := w.heap.push (.cells zv.cells t) }, .pointer (some ⟨w.heap.size, 0, none⟩), bm ++ [w.heap.size], ?_, h.box hw h1 h2, Gua.box h.base bm s.n0 s.D hw rfl rfl rfl, ?_⟩
      · simp [execOp, ho, Instr.alloc, zeroValue, typeInfo, hi, hzv, newVar, newRow]
      · unfold VRel; exact ⟨w.heap.size, by rw [← h.bml]; simp, rfl⟩

theorem box_sound (h : Sim bm L s a w) (o : Oper) (t : TypeId) (x : Operand) (ho : o.op = .box t x) (hs : (s.ev x).sized = true) (hc : (s.ev x).cells.all PV.isCell = true) :
    ∃ w' V bm', (execOp a.eval o).run P w = .ok (.value V) w' ∧ Sim bm' L (s.pushBox (s.ev x).cells) a w' ∧ Gua bm bm' s.n0 s.D L w L w' ∧ VRel bm' L w' (.box s.boxes.length 0) V := by
  obtain ⟨h1, h2⟩ := sized_one (h.ev x) hs hc
  have hw : ({ w with heap := w.heap.push (.cells (a.eval x).cells t) } : World).heap = w.heap.push (.cells (a.eval x).cells t (0, 0)) := rfl
  refine ⟨{ w with heap := w.heap.push (.cells (a.eval x).cells t) }, .pointer (some ⟨w.heap.size, 0, none⟩), bm ++ [w.heap.size], ?_, h.box hw h1 h2, Gua.box h.base bm s.n0 s.D hw rfl rfl rfl, ?_⟩
  · simp [execOp, ho, Instr.box, newVar, newRow]
  · unfold VRel; exact ⟨w.heap.size, by rw [← h.bml]; simp, rfl⟩

/-- Filling a row of n places of z cells each. -/
theorem fill_all (z : Nat) : ∀ (vs : List Value) (k n : Nat) (C : Array Value), C.size = n * z → k + vs.length = n → (∀ v ∈ vs, v.cells.size = z) →
    Instr.fill (fun i => some (i * z, z)) C ((vs.zipIdx k).map fun x => (x.2, x.1)) = some (C.toList.take (k * z) ++ vs.flatMap fun v => v.cells.toList).toArray
  | [], k, n, C, hC, hk, _ => by
    have : k = n := by simpa using hk
    subst this
    simp [Instr.fill, List.take_of_length_le (show C.toList.length ≤ k * z by simp [hC])]
  | v :: vs, k, n, C, hC, hk, hv => by
    have hvz := hv v (by simp)
    have hle : (k + 1) * z ≤ n * z := Nat.mul_le_mul_right _ (by simp at hk; omega)
    rw [Nat.add_mul] at hle
    simp only [List.zipIdx_cons, List.map_cons]
    unfold Instr.fill
    simp only
    rw [if_neg (by simp [hvz, hC]; omega)]
    have hfold : (v.cells.zipIdx.foldl (fun cs (x : Value × Nat) => cs.setIfInBounds (k * z + x.2) x.1) C).toList = C.toList.take (k * z) ++ v.cells.toList ++ C.toList.drop (k * z + z) := by
      have key : ∀ (l : List Value) (j : Nat) (D : Array Value), k * z + j + l.length ≤ D.size →
          ((l.zipIdx j).foldl (fun cs (x : Value × Nat) => cs.setIfInBounds (k * z + x.2) x.1) D).toList = D.toList.take (k * z + j) ++ l ++ D.toList.drop (k * z + j + l.length) := by
        intro l
        induction l with
        | nil => intro j D hD; simp
        | cons u l ih =>
          intro j D hD
          simp only [List.zipIdx_cons, List.foldl_cons]
          rw [ih (j + 1) _ (by simp at hD ⊢; omega)]
          have := list_seg_step D.toList (k * z + j) u l (by simp at hD ⊢; omega)
          simpa [Array.toList_setIfInBounds, Nat.add_assoc] using this
      have h0 := key v.cells.toList 0 C (by simp; omega)
      simp only [Nat.add_zero, Array.length_toList, hvz] at h0
      rw [← h0, ← Array.foldl_toList]
      congr 1
      simp
    have hsz : (v.cells.zipIdx.foldl (fun cs (x : Value × Nat) => cs.setIfInBounds (k * z + x.2) x.1) C).size = n * z := by
      rw [← Array.length_toList, hfold]; simp; omega
    have ih := fill_all z vs (k + 1) n _ hsz (by simp at hk; omega) (fun u hu => hv u (by simp [hu]))
    rw [ih, hfold]
    congr 2
    have e1 : ((C.toList.take (k * z) ++ v.cells.toList ++ C.toList.drop (k * z + z)).take ((k + 1) * z)) = C.toList.take (k * z) ++ v.cells.toList := by
      have hla : (C.toList.take (k * z) ++ v.cells.toList).length = k * z + z := by
        rw [List.length_append, List.length_take, Array.length_toList, Array.length_toList, hvz, hC]; omega
      rw [Nat.add_mul, Nat.one_mul]
      rw [List.take_append_of_le_length (by omega), List.take_of_length_le (by omega)]
    rw [e1]
    simp

theorem flatMap_get (z : Nat) (f : Value → List Value) : ∀ (vs : List Value) (_ : ∀ v ∈ vs, (f v).length = z) (j t : Nat) (v : Value), vs[j]? = some v → t < z → (vs.flatMap f)[j * z + t]? = (f v)[t]?
  | [], _, j, t, v, hj, _ => by simp at hj
  | u :: vs, h, j, t, v, hj, ht => by
    have hu := h u (by simp)
    simp only [List.flatMap_cons]
    cases j with
    | zero =>
      simp at hj; subst hj
      rw [Nat.zero_mul, Nat.zero_add, List.getElem?_append_left (by omega)]
    | succ j =>
      simp at hj
      rw [List.getElem?_append_right (by rw [hu, Nat.add_mul]; omega), hu, show (j + 1) * z + t - z = j * z + t from by rw [Nat.add_mul]; omega]
      exact flatMap_get z f vs (fun x hx => h x (by simp [hx])) j t v hj ht

theorem flatMap_len (z : Nat) (f : Value → List Value) : ∀ (vs : List Value) (_ : ∀ v ∈ vs, (f v).length = z), (vs.flatMap f).length = vs.length * z
  | [], _ => by simp
  | u :: vs, h => by
    simp only [List.flatMap_cons, List.length_append, List.length_cons, h u (by simp), flatMap_len z f vs (fun x hx => h x (by simp [hx])), Nat.add_mul]
    omega

theorem buildSlice_sound (h : Sim bm L s a w) (o : Oper) (t : TypeId) (n : Nat) (parts : Array (Nat × Operand)) (ho : o.op = .buildSlice t n parts) {e : TypeId} {m : Nat} (hte : tslice P t = some e) (hm : tsize P e = some m) (hn : n * m ≤ 16777216)
    (hidx : parts.toList.map (·.1) = List.range n) (hall : (parts.toList.all fun x => (s.ev x.2).sized && (s.ev x.2).closed && (s.ev x.2).cells.all PV.isCell && (s.ev x.2).cells.length == m) = true)
    (hz : n = 0 ∨ ∃ z, tzero P e = some z ∧ z.sized = true ∧ z.cells.length = m) (hm0 : 0 < m) :
    ∃ w' V L', (execOp a.eval o).run P w = .ok (.value V) w' ∧ Sim bm L' (s.fresh (n * m)) a w' ∧ Gua bm bm s.n0 s.D L w L' w' ∧ VRel bm L' w' (.sl ⟨s.next, s.next, 0⟩ m (parts.toList.map fun x => s.ev x.2)) V := by
  have hd := tslice_spec hte
  have hlen : parts.toList.length = n := by have := congrArg List.length hidx; simpa using this
  let vs : List Value := parts.toList.map fun x => a.eval x.2
  have hvl : vs.length = n := by simp [vs]; simpa using hlen
  have hvz : ∀ v ∈ vs, v.cells.size = m := by
    intro v hv
    simp only [vs, List.mem_map] at hv
    obtain ⟨x, hx, rfl⟩ := hv
    have := List.all_eq_true.1 hall x hx
    simp only [Bool.and_eq_true, beq_iff_eq] at this
    have hl := ((h.ev x.2).cells this.1.1.1).length
    simp at hl; omega
  have hparts : (parts.map fun (x : Nat × Operand) => (x.1, a.eval x.2)).toList = (vs.zipIdx 0).map fun x => (x.2, x.1) := by
    apply List.ext_getElem?
    intro j
    simp only [Array.toList_map, List.getElem?_map, List.getElem?_zipIdx, vs]
    cases hj : parts.toList[j]? with
    | none => simp
    | some x =>
      have : (parts.toList.map (·.1))[j]? = some x.1 := by simp only [List.getElem?_map, hj, Option.map_some]
      rw [hidx] at this
      have hjn : j < n := by rw [← hlen]; exact (List.getElem?_eq_some_iff.1 hj).1
      rw [List.getElem?_range hjn] at this
      simp at this
      simp [this]
  have hflen : (vs.flatMap fun v => v.cells.toList).length = n * m := by rw [flatMap_len m _ vs (fun v hv => by simpa using hvz v hv), hvl]
  have hrun : (Instr.buildSlice t n (parts.map fun (x : Nat × Operand) => (x.1, a.eval x.2))).run P w = .ok (.slice (some ⟨w.heap.size, 0, none⟩) n n) { w with heap := w.heap.push (.cells (vs.flatMap fun v => v.cells.toList).toArray e) } := by
    have hfill : ∀ C : Array Value, C.size = n * m → Instr.fill (fun i => some (i * m, m)) C (parts.map fun (x : Nat × Operand) => (x.1, a.eval x.2)).toList = some (vs.flatMap fun v => v.cells.toList).toArray := by
      intro C hC
      rw [hparts, fill_all m vs 0 n C hC (by omega) hvz]
      simp
    rcases hz with hz | ⟨z, hzz, hzs, hzl⟩
    · subst hz
      have := hfill ((Array.range 0).map ((#[] : Array Value)[· % 0]!)) (by simp)
      simp only [Instr.buildSlice, Sem.run_bind, run_underlying hd, Result.andThen_ok, run_sizeOf hm, Nat.zero_mul, gt_iff_lt, Nat.not_lt_zero, if_false, if_true, Sem.run_pure, Array.size_empty, this, newRow, run_newObj]
    · obtain ⟨inf, hinf, hsz⟩ := tsize_spec hm
      obtain ⟨zv, hzv, hzvs, _⟩ := tzero_spec hzz hinf hzs
      have h24 : ¬ (16777216 < n * m) := by omega
      by_cases h0 : n * m = 0
      · have hn0 : n = 0 := by rcases Nat.mul_eq_zero.1 h0 with e | e; exact e; omega
        subst hn0
        have := hfill ((Array.range 0).map ((#[] : Array Value)[· % 0]!)) (by simp)
        simp only [Instr.buildSlice, Sem.run_bind, run_underlying hd, Result.andThen_ok, run_sizeOf hm, Nat.zero_mul, gt_iff_lt, Nat.not_lt_zero, if_false, if_true, Sem.run_pure, Array.size_empty, this, newRow, run_newObj]
      · have := hfill ((Array.range (n * m)).map (zv.cells[· % zv.cells.size]!)) (by simp)
        simp only [Instr.buildSlice, Sem.run_bind, run_underlying hd, Result.andThen_ok, run_sizeOf hm, Sem.run_ite, gt_iff_lt, h0, h24, show (2:Nat) ^ 24 = 16777216 from rfl, if_false, zeroValue, typeInfo, run_program, hinf, hzv, Sem.run_pure, this, newRow, run_newObj]
  have hw : ({ w with heap := w.heap.push (.cells (vs.flatMap fun v => v.cells.toList).toArray e) } : World).heap = w.heap.push (.cells (vs.flatMap fun v => v.cells.toList).toArray e (0, 0)) := rfl
  have hn0 := h.n0
  have hrow := VRel.row (bm := bm) h.base hw s.next m n (parts.toList.map fun x => s.ev x.2) (by rw [List.length_map]; omega) (by simp [hflen]) (by
    intro j p hj
    simp only [List.getElem?_map, Option.map_eq_some_iff] at hj
    obtain ⟨x, hx, rfl⟩ := hj
    have hx' := List.all_eq_true.1 hall x (List.mem_of_getElem? hx)
    simp only [Bool.and_eq_true, beq_iff_eq] at hx'
    obtain ⟨⟨⟨c1, c2⟩, c3⟩, c4⟩ := hx'
    refine ⟨c4, fun t' c hc => ?_⟩
    obtain ⟨k1, k2⟩ := sized_one ((h.ev x.2).open c2) c1 c3
    obtain ⟨v, hv, hr⟩ := k1.get t' c hc
    have ht' : t' < m := by rw [← c4]; exact (List.getElem?_eq_some_iff.1 hc).1
    have hvj : vs[j]? = some (a.eval x.2) := by simp only [vs, List.getElem?_map, hx, Option.map_some]
    refine ⟨v, ?_, k2 v (List.mem_of_getElem? hv), hr⟩
    rw [List.getElem?_toArray, flatMap_get m _ vs (fun v hv => by simpa using hvz v hv) j t' _ hvj ht']
    exact hv)
  have hpl : (parts.toList.map fun x => s.ev x.2).length = n := by simpa using hlen
  rw [hpl] at hrow
  refine ⟨_, _, _, ?_, h.row hw ⟨hn0.2, by omega⟩ (n * m) ((s.next, s.next, n * m) :: s.tips) (by intro x hx; simpa using hx), Gua.newRow h.base bm s.n0 s.D hw rfl rfl rfl s.next (n * m), by rw [h.nx] at hrow; exact hrow⟩
  simp only [execOp, ho, Sem.run_bind, hrun, Result.andThen_ok, Sem.run_pure]

theorem makeSlice_sound (h : Sim bm L s a w) (o : Oper) (t : TypeId) (x y : Operand) (ho : o.op = .makeSlice t x y) {e : TypeId} {m by_ : Nat} {z : PV} {k k' : IntKind} {len cap : Int} (hte : tslice P t = some e) (hm : tsize P e = some m) (hb : tbytes P e = some by_) (hz : tzero P e = some z)
    (hx : s.ev x = .int k len) (hy : s.ev y = .int k' cap) (h0 : 0 ≤ len) (h1 : len ≤ cap) (h2 : cap ≤ 9223372036854775807) (h3 : by_ * cap ≤ 281474976710656) (hs : z.sized = true) (hc : z.cells.all PV.isCell = true) (hzl : z.cells.length = m) (hm0 : 0 < m) :
    ∃ w' V L', (execOp a.eval o).run P w = .ok (.value V) w' ∧ Sim bm L' (s.fresh (len.toNat * m)) a w' ∧ Gua bm bm s.n0 s.D L w L' w' ∧ VRel bm L' w' (.sl ⟨s.next, s.next, 0⟩ m (List.replicate len.toNat z)) V := by
  have hd := tslice_spec hte
  obtain ⟨inf, hinf, hsz⟩ := tsize_spec hm
  obtain ⟨zv, hzv, hzvs, hzr⟩ := tzero_spec hz hinf hs
  have hby := tbytes_spec hb hinf
  have hx' := h.ev x
  have hy' := h.ev y
  rw [hx] at hx'; rw [hy] at hy'
  have hx' := hx'.int
  have hy' := hy'.int
  have wrap : ∀ n : Int, 0 ≤ n → n ≤ 9223372036854775807 → IntKind.i64.wrap n = n := fun n hn1 hn2 => IntWalk.i64_in n ⟨by omega, hn2⟩
  have hwl := wrap len h0 (by omega)
  have hwc := wrap cap (by omega) h2
  subst hsz
  subst hby
  let C : Array Value := (Array.range (cap.toNat * inf.size)).map (zv.cells[· % zv.cells.size]!)
  have hCsz : C.size = cap.toNat * inf.size := by simp [C]
  have hrun : (Instr.makeSlice t (.int k len) (.int k' cap)).run P w = .ok (.slice (some ⟨w.heap.size, 0, none⟩) len.toNat cap.toNat) { w with heap := w.heap.push (.cells C e) } := by
    have hbig : ¬ ((inf.bytes : Int) * cap > 2 ^ 48) := by
      have : (2 : Int) ^ 48 = 281474976710656 := by decide
      omega
    have hcond : ((decide (cap < 0) || decide ((inf.bytes : Int) * cap > 2 ^ 48)) || decide (len < 0) || decide (len > cap)) = false := by
      simp only [Bool.or_eq_false_iff, decide_eq_false_iff_not]
      refine ⟨⟨⟨by omega, hbig⟩, by omega⟩, by omega⟩
    simp only [Instr.makeSlice, Sem.run_bind, run_underlying hd, Result.andThen_ok, asInt, asIntOf, Sem.run_pure, typeInfo, run_program, hinf, hwl, hwc]
    simp only [Bool.or_assoc, gt_iff_lt] at hcond ⊢
    rw [hcond]
    simp only [Bool.false_eq_true, if_false, Sem.run_bind, run_askRoom, Result.andThen_ok, Go.sizeOf, typeInfo, run_program, hinf, Sem.run_pure]
    by_cases hn : cap.toNat * inf.size = 0
    · have hc0 : cap.toNat = 0 := by rcases Nat.mul_eq_zero.1 hn with e | e; exact e; omega
      simp [hc0, newRow, C, show Array.range 0 = (#[] : Array Nat) from rfl]
    · simp [hn, zeroValue, typeInfo, hinf, hzv, newRow, C]
  have hw : ({ w with heap := w.heap.push (.cells C e) } : World).heap = w.heap.push (.cells C e (0, 0)) := rfl
  have hn0 := h.n0
  have hrow := VRel.row (bm := bm) h.base hw s.next inf.size cap.toNat (List.replicate len.toNat z) (by simp; omega) (by rw [hCsz]; exact Nat.le_refl _) (by
    intro j p hj
    rw [List.getElem?_replicate] at hj
    split at hj
    · rename_i hjl
      cases hj
      refine ⟨hzl, fun t' c hcc => ?_⟩
      have ht' : t' < inf.size := by rw [← hzl]; exact (List.getElem?_eq_some_iff.1 hcc).1
      obtain ⟨v, hv, hr⟩ := (hzr [] L w).get t' c hcc
      have hlt : j * inf.size + t' < cap.toNat * inf.size := by
        have : (j + 1) * inf.size ≤ cap.toNat * inf.size := Nat.mul_le_mul_right _ (by omega)
        rw [Nat.add_mul] at this; omega
      refine ⟨v, ?_, hr.oneCell (List.all_eq_true.1 hc _ (List.mem_of_getElem? hcc)), hr⟩
      simp only [C, Array.getElem?_map, Array.getElem?_range, if_pos hlt, Option.map_some]
      have hmod : (j * inf.size + t') % zv.cells.size = t' := by
        rw [hzvs, hzl, Nat.add_comm, Nat.add_mul_mod_self_right, Nat.mod_eq_of_lt ht']
      rw [hmod]
      have hv' : zv.cells[t']? = some v := by simpa using hv
      have hlt' := (Array.getElem?_eq_some_iff.1 hv').1
      rw [getElem!_pos zv.cells t' hlt', (Array.getElem?_eq_some_iff.1 hv').2]
    · cases hj)
  simp only [List.length_replicate] at hrow
  refine ⟨_, _, _, ?_, h.row hw ⟨hn0.2, by omega⟩ (len.toNat * inf.size) ((s.next, s.next, len.toNat * inf.size) :: s.tips) (by intro x hx; simpa using hx), Gua.newRow h.base bm s.n0 s.D hw rfl rfl rfl s.next (len.toNat * inf.size), by rw [h.nx] at hrow; exact hrow⟩
  simp only [execOp, ho, Sem.run_bind, hx', hy', hrun, Result.andThen_ok, Sem.run_pure]

theorem putCells_rel {bm : List Nat} {cs vs : List PV} {C V : List Value} {off : Nat} (h : LRel bm L w cs C) (hv : LRel bm L w vs V) : LRel bm L w (putCells cs off vs) (C.take off ++ V ++ C.drop (off + V.length)) := by
  unfold putCells
  rw [← hv.length]
  exact ((h.take off).append hv).append (h.drop _)

theorem storeVar_run {t : TypeId} {V : Value} {n : Nat} (ht : tsize P t = some n) (hn : V.cells.size = n) {b off : Nat} {cur : Array Value} {el : TypeId} (hC : w.heap[b]? = some (.cells cur el (0, 0))) (hle : off + n ≤ cur.size) (h1 : ∀ u ∈ V.cells.toList, u.oneCell' = true) :
    (storeVar t ⟨b, off, none⟩ V).run P w = .ok () (w.setRow b (cur.toList.take off ++ V.cells.toList ++ cur.toList.drop (off + V.cells.toList.length)).toArray) := by
  have hst := run_storeCells_at P b off el V.cells.toList 0 cur w hC (by simp [hn]; omega) h1
  simp only [Nat.add_zero] at hst
  simp [storeVar, run_sizeOf ht, hn, hst]

theorem nodup_get {l : List Nat} (h : l.Nodup) {i j b : Nat} (hi : l[i]? = some b) (hj : l[j]? = some b) : i = j := by
  have l1 := (List.getElem?_eq_some_iff.1 hi)
  have l2 := (List.getElem?_eq_some_iff.1 hj)
  obtain ⟨hi', e1⟩ := l1
  obtain ⟨hj', e2⟩ := l2
  have hp := List.pairwise_iff_getElem.1 h
  rcases Nat.lt_trichotomy i j with hlt | heq | hgt
  · exact absurd (e1.trans e2.symm) (hp i j hi' hj' hlt)
  · exact heq
  · exact absurd (e2.trans e1.symm) (hp j i hj' hi' hgt)

theorem storeBox_sound (h : Sim bm L s a w) (o : Oper) (t : TypeId) (x y : Operand) (ho : o.op = .store t x y) (hs : (s.ev y).sized = true) (hc : (s.ev y).cells.all PV.isCell = true) (ht : tsize P t = some (s.ev y).cells.length) {k off : Nat} (hx : s.ev x = .box k off) {cs : List PV} (hk : s.boxes[k]? = some cs) (hle : off + (s.ev y).cells.length ≤ cs.length) :
    ∃ w', (execOp a.eval o).run P w = .ok .skip w' ∧ Sim bm L (s.setBox k (putCells cs off (s.ev y).cells)) a w' ∧ Gua bm bm s.n0 s.D L w L w' := by
  obtain ⟨v1, v2⟩ := sized_one (h.ev y) hs hc
  have hx' := h.ev x
  rw [hx] at hx'
  unfold VRel at hx'
  obtain ⟨b, hb, hx'⟩ := hx'
  obtain ⟨hfam, cur, el, hC, hcs, hcell⟩ := h.boxes k b cs hb hk
  have hvl : (a.eval y).cells.size = (s.ev y).cells.length := by simpa using v1.length.symm
  have hcl : cs.length = cur.size := by simpa using hcs.length
  have hst := storeVar_run ht hvl (off := off) hC (by omega) v2
  let C' : Array Value := (cur.toList.take off ++ (a.eval y).cells.toList ++ cur.toList.drop (off + (a.eval y).cells.toList.length)).toArray
  have hp : Pres bm L w bm L (w.setRow b C') [] := by
    refine ⟨fun _ _ h => h, Nat.le_refl _, fun _ _ => rfl, fun _ _ h => h, fun _ _ _ => Nat.le_refl _, ?_, ?_, fun _ _ h => h⟩
    · intro b' f hf _ off' _
      exact cell_of_heap (setRow_ne w C' (fun e => by rw [e, hfam] at hf; cases hf))
    · intro b' f hf D el' fz hD
      exact ⟨D, by rw [setRow_ne w C' (fun e => by rw [e, hfam] at hf; cases hf)]; exact hD, rfl⟩
  have htab : ∀ b' C0, (b', C0) ∈ tabs → (∃ el fz, (w.setRow b C').heap[b']? = some (.cells C0.toArray el fz)) ∧ L.fam b' = some 0 := by
    intro b' C0 hC0
    obtain ⟨⟨el', fz', h1⟩, h2⟩ := h.base.tab b' C0 hC0
    exact ⟨⟨el', fz', by rw [setRow_ne w C' (fun e => by rw [e, hfam] at h2; cases h2)]; exact h1⟩, h2⟩
  have hmp : ∀ b' I, L.mp b' = some I → L.fam b' = none ∧ ∃ es c, (w.setRow b C').heap[b']? = some (.map es c) ∧ ∀ e, e ∈ es.toList → MOk I e := by
    intro b' I hI
    obtain ⟨h1, es, c, h2, h3⟩ := h.base.mp b' I hI
    exact ⟨h1, es, c, by rw [setRow_ne w C' (fun e => by rw [e, hC] at h2; cases h2)]; exact h2, h3⟩
  refine ⟨w.setRow b C', ?_, ⟨fun t => VRel.pres0 hp (h.slots t), h.nt, h.defers, h.nx, ⟨h.base.pos, ?_, ?_, htab, hmp⟩, by simp [St.setBox, h.bml], h.bmn, ?_, h.tipsN, h.tips, h.n0⟩, ?_⟩
  · simp [execOp, ho, Instr.storeAt, hx', Instr.sureAddr, hst, C']
  · intro b' f hf; have := h.base.fam b' f hf; simpa using this
  · intro b' f hf h0
    obtain ⟨D, el', hD⟩ := h.base.own b' f hf h0
    exact ⟨D, el', by rw [setRow_ne w C' (fun e => by rw [e, hfam] at hf; cases hf)]; exact hD⟩
  · intro k' b' cs' hb' hcs'
    simp only [St.setBox, List.getElem?_set] at hcs'
    by_cases hkk : k = k'
    · subst hkk
      rw [if_pos rfl] at hcs'
      split at hcs'
      · cases hcs'
        rw [hb] at hb'; cases hb'
        refine ⟨hfam, C', el, setRow_get w b C' hC, ?_, ?_⟩
        · have := putCells_rel (off := off) (LRel.pres0 hp hcs) (LRel.pres0 hp v1)
          simpa [C'] using this
        · intro v hv
          simp only [C', List.mem_append] at hv
          rcases hv with (hv | hv) | hv
          · exact hcell v (List.mem_of_mem_take hv)
          · exact v2 v hv
          · exact hcell v (List.mem_of_mem_drop hv)
      · cases hcs'
    · rw [if_neg hkk] at hcs'
      obtain ⟨g1, D, el', g2, g3, g4⟩ := h.boxes k' b' cs' hb' hcs'
      have hne : b' ≠ b := by
        intro e
        subst e
        exact hkk (nodup_get h.bmn hb hb')
      exact ⟨g1, D, el', by rw [setRow_ne w C' hne]; exact g2, LRel.pres0 hp g3, g4⟩
  · refine ⟨by simp, rfl, rfl, rfl, Nat.le_refl _, fun _ _ => rfl, fun _ _ => rfl, fun _ _ _ _ => rfl, ?_, hp.row, fun _ _ h => h, fun _ h => .inl h, fun _ _ => rfl⟩
    intro b' _ _ hm _
    exact setRow_ne w C' (fun e => hm (by rw [e]; exact List.mem_of_getElem? hb))
end
end Go.Proofs.YtphndngifjgeoaaGreatDoor
