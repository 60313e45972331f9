/- The by-value logic, part F: append, the making of slices, boxes and stores are the model's; for every program. -/
import Derived.Test.YtphndngifjgeoaaGreatDoorBvE
set_option linter.unusedVariables false
set_option linter.unusedSimpArgs false
namespace Go.Proofs.YtphndngifjgeoaaGreatDoor
section
variable {P : Program} {bm : List Nat} {L : Lay} {s : St} {a : Act} {w : World}

/-- The cells of elements, as the world holds them. -/
theorem ERel.values : ∀ {es : List PV} {z b o : Nat}, ERel L w z b es o → ∃ vs : List Value, vs.length = es.length * z ∧ (∀ (j : Nat) (v : Value), vs[j]? = some v → w.cell? ⟨b, o + j, none⟩ = some v ∧ v.oneCell' = true) ∧
    (∀ (j : Nat) (e : PV), es[j]? = some e → e.cells.length = z ∧ ∀ (t : Nat) (c : PV), e.cells[t]? = some c → ∃ v, vs[j * z + t]? = some v ∧ v.oneCell' = true ∧ VRel [] L w c v) := by
  intro es z b o h
  have hex : ∀ j, j < es.length * z → ∃ v, w.cell? ⟨b, o + j, none⟩ = some v ∧ v.oneCell' = true := by
    intro j hj
    have hz : 0 < z := by rcases Nat.eq_zero_or_pos z with e | e; subst e; simp at hj; exact e
    have hd : j / z < es.length := (Nat.div_lt_iff_lt_mul hz).2 hj
    obtain ⟨h1, h2⟩ := h.get (j / z) _ (List.getElem?_eq_getElem hd)
    have hm : j % z < z := Nat.mod_lt _ hz
    obtain ⟨v, hv, hv1, _⟩ := h2.get1 (j % z) _ (List.getElem?_eq_getElem (by rw [h1]; exact hm))
    refine ⟨v, ?_, hv1⟩
    rw [show o + j = o + j / z * z + j % z from by have := Nat.div_add_mod j z; rw [Nat.mul_comm] at this; omega]
    exact hv
  refine ⟨(List.range (es.length * z)).map fun j => (w.cell? ⟨b, o + j, none⟩).getD undef, by simp, ?_, ?_⟩
  · intro j v hj
    have hlt : j < es.length * z := by have := (List.getElem?_eq_some_iff.1 hj).1; simpa using this
    obtain ⟨u, hu, hu1⟩ := hex j hlt
    simp only [List.getElem?_map, List.getElem?_range hlt, Option.map_some, hu, Option.getD_some, Option.some.injEq] at hj
    subst hj; exact ⟨hu, hu1⟩
  · intro j e he
    obtain ⟨h1, h2⟩ := h.get j e he
    refine ⟨h1, fun t c hc => ?_⟩
    obtain ⟨v, hv, hv1, hr⟩ := h2.get1 t c hc
    have ht : t < z := by rw [← h1]; exact (List.getElem?_eq_some_iff.1 hc).1
    have hjl : j < es.length := (List.getElem?_eq_some_iff.1 he).1
    have hlt : j * z + t < es.length * z := by
      have : (j + 1) * z ≤ es.length * z := Nat.mul_le_mul_right _ hjl
      rw [Nat.add_mul] at this; omega
    exact ⟨v, by rw [List.getElem?_map, List.getElem?_range hlt, Option.map_some, show o + (j * z + t) = o + j * z + t from by omega, hv]; rfl, hv1, hr⟩

theorem setRow_get (w : World) (g : Nat) (cs : Array Value) {cur : Array Value} {el : TypeId} {fz : Nat × Nat} (h : w.heap[g]? = some (.cells cur el fz)) : (w.setRow g cs).heap[g]? = some (.cells cs el fz) := by
  simp [World.setRow, Array.getElem?_modify, h]
theorem setRow_ne (w : World) {g b : Nat} (cs : Array Value) (h : b ≠ g) : (w.setRow g cs).heap[b]? = w.heap[b]? := by
  simp [World.setRow, Array.getElem?_modify, Ne.symm h]
theorem setRow_sz (w : World) (g : Nat) (cs : Array Value) : (w.setRow g cs).heap.size = w.heap.size := by simp [World.setRow]

/-- A block's rest is written: the layout behind it. -/
def Lay.more (L : Lay) (b base T : Nat) : Lay :=
  { fam := L.fam, lim := fun x => if x = b then T else L.lim x, pl := fun g => if g = L.nx then (b, base) else L.pl g, nx := L.nx + 1, mp := L.mp }

theorem Pres.more {b f : Nat} (hf : L.fam b = some f) {cur : Array Value} {el : TypeId} {fz : Nat × Nat} (hC : w.heap[b]? = some (.cells cur el fz)) (bm : List Nat) (base T : Nat) (hT : L.lim b ≤ T) (cs : Array Value) (hsz : cs.size = cur.size)
    (hcs : ∀ j, j < L.lim b → cs[j]? = cur[j]?) : Pres bm L w bm (L.more b base T) (w.setRow b cs) [] := by
  refine ⟨fun _ _ h => h, by simp [Lay.more], ?_, fun _ _ h => h, ?_, ?_, ?_, fun _ _ h => h⟩
  · intro g hg; simp only [Lay.more]; rw [if_neg (by omega)]
  · intro b' f' _; simp only [Lay.more]; split
    · rename_i e; subst e; exact hT
    · exact Nat.le_refl _
  · intro b' f' _ _ off hoff
    by_cases e : b' = b
    · subst e
      simp only [World.cell?, setRow_get w b' cs hC, hC, Option.isSome_none, Bool.false_eq_true, if_false]
      exact hcs off hoff
    · exact cell_of_heap (setRow_ne w cs e)
  · intro b' f' _ C el' fz' hC'
    by_cases e : b' = b
    · subst e
      rw [hC] at hC'; cases hC'
      exact ⟨cs, setRow_get w b' cs hC, hsz⟩
    · exact ⟨C, by rw [setRow_ne w cs e]; exact hC', rfl⟩

theorem Sim.more (h : Sim bm L s a w) {b f : Nat} (hf : L.fam b = some f) (hf0 : s.n0 ≤ f) {cur : Array Value} {el : TypeId} (hC : w.heap[b]? = some (.cells cur el (0, 0))) {g T0 base : Nat} (base' T1 : Nat) (hg : (g, f, T0) ∈ s.tips) (hpl : L.pl g = (b, base)) (hT : L.lim b ≤ base' + T1)
    (cs : Array Value) (hsz : cs.size = cur.size) (hcs : ∀ j, j < L.lim b → cs[j]? = cur[j]?) :
    Sim bm (L.more b base' (base' + T1)) (s.regrown g f T1) a (w.setRow b cs) ∧ Gua bm bm s.n0 s.D L w (L.more b base' (base' + T1)) (w.setRow b cs) := by
  have hp := Pres.more hf hC bm base' (base' + T1) hT cs hsz hcs
  have hnx := h.nx
  constructor
  · refine ⟨fun t => VRel.pres0 hp (h.slots t), h.nt, h.defers, by simp [Lay.more, St.regrown, h.nx], ⟨by simp [Lay.more], ?_, ?_, ?_, fun b' I hI => by
      obtain ⟨h1, es, c, h2, h3⟩ := h.base.mp b' I hI
      exact ⟨h1, es, c, by rw [setRow_ne w cs (fun e => by rw [e, hf] at h1; cases h1)]; exact h2, h3⟩⟩, h.bml, h.bmn, ?_, ?_, ?_, ?_⟩
    rotate_left 2
    · intro b' C' hC'
      obtain ⟨⟨el', fz', h1⟩, h2⟩ := h.base.tab b' C' hC'
      have hne : b' ≠ b := fun e => by
        have := h.n0
        rw [e, hf] at h2; cases h2; omega
      exact ⟨⟨el', fz', by rw [setRow_ne w cs hne]; exact h1⟩, h2⟩
    rotate_left 4
    · intro b' f' hf'; have := h.base.fam b' f' hf'; simp [Lay.more]; omega
    · intro b' f' hf' h0
      by_cases e : b' = b
      · subst e; exact ⟨cs, el, setRow_get w b' cs hC⟩
      · obtain ⟨C', el', h'⟩ := h.base.own b' f' hf' h0
        exact ⟨C', el', by rw [setRow_ne w cs e]; exact h'⟩
    · intro k b' cs' hb hc
      obtain ⟨h1, C', el', h2, h3, h4⟩ := h.boxes k b' cs' hb hc
      have hne : b' ≠ b := fun e => by rw [e, hf] at h1; cases h1
      exact ⟨h1, C', el', by rw [setRow_ne w cs hne]; exact h2, LRel.pres0 hp h3, h4⟩
    · have key : ∀ x, x ∈ s.tips → ((L.more b base' (base' + T1)).pl x.1).1 = (L.pl x.1).1 := by
        intro x hx
        obtain ⟨h1, _⟩ := h.tips x.1 x.2.1 x.2.2 hx
        simp only [Lay.more]; rw [if_neg (by omega)]
      have hnew : ((L.more b base' (base' + T1)).pl s.next).1 = b := by simp [Lay.more, h.nx]
      intro x y hx hy hxy
      simp only [St.regrown, List.mem_cons, List.mem_filter] at hx hy
      have excl : ∀ x : Nat × Nat × Nat, x ∈ s.tips → (x.1 != g) = true → (L.pl x.1).1 ≠ b := by
        intro x hx hxg e
        have := h.tipsN x (g, f, T0) hx hg (by rw [e, hpl])
        subst this; simp at hxg
      rcases hx with hx | ⟨hx, hxg⟩ <;> rcases hy with hy | ⟨hy, hyg⟩
      · rw [hx, hy]
      · rw [hx] at hxy
        rw [hnew, key y hy] at hxy
        exact absurd hxy.symm (excl y hy hyg)
      · rw [hy] at hxy
        rw [hnew, key x hx] at hxy
        exact absurd hxy (excl x hx hxg)
      · rw [key x hx, key y hy] at hxy
        exact h.tipsN x y hx hy hxy
    · intro g' f' T' hg'
      simp only [St.regrown, List.mem_cons, List.mem_filter] at hg'
      rcases hg' with e | ⟨hg', hne⟩
      · cases e
        have := (h.base.fam b _ hf).1
        exact ⟨by simp [Lay.more, h.nx], by simp [Lay.more]; omega, b, base', by simp [Lay.more, h.nx], hf, hf0, by simp [Lay.more]⟩
      · obtain ⟨h1, h1', b', base'', h2, h3, h4, h5⟩ := h.tips g' f' T' hg'
        have hbne : b' ≠ b := by
          intro e
          have := h.tipsN (g', f', T') (g, f, T0) hg' hg (by rw [h2, hpl, e])
          cases this; simp at hne
        refine ⟨by simp [Lay.more]; omega, by simp [Lay.more]; omega, b', base'', by simp only [Lay.more]; rw [if_neg (by omega)]; exact h2, h3, h4, ?_⟩
        simp only [Lay.more]; rw [if_neg hbne]; exact h5
    · have := h.n0; exact ⟨this.1, by simp [St.regrown]; omega⟩
  · refine ⟨by simp, rfl, rfl, rfl, by simp [Lay.more], hp.pl, fun _ _ => rfl, ?_, ?_, hp.row, fun _ _ h => h, fun _ h => .inl h, fun _ _ => rfl⟩
    · intro b' f' hf' hlt
      simp only [Lay.more]
      split
      · rename_i e; subst e; rw [hf] at hf'; cases hf'; omega
      · rfl
    · intro b' _ hfam _ _
      have hne : b' ≠ b := fun e => by have := (hfam f (by rw [e]; exact hf)).1; omega
      exact setRow_ne w cs hne

theorem tipOf_mem {tips : List (Nat × Nat × Nat)} {g f T : Nat} (h : tipOf tips g f = some T) : (g, f, T) ∈ tips := by
  unfold tipOf at h
  cases hf : tips.find? (fun x => x.1 == g && x.2.1 == f) with
  | none => simp [hf] at h
  | some x =>
    simp [hf] at h
    have h1 := List.mem_of_find?_eq_some hf
    have h2 := List.find?_some hf
    simp at h2
    obtain ⟨h2, h3⟩ := h2
    subst h2; subst h3; subst h
    exact h1

theorem tzero_spec {t : TypeId} {z : PV} {i : TypeInfo} (h : tzero P t = some z) (hi : P.info? t = some i) (hs : z.sized = true) : ∃ zv, i.zero = some zv ∧ zv.cells.size = z.cells.length ∧ ∀ bm L w, LRel bm L w z.cells zv.cells.toList := by
  unfold tzero at h
  cases hz : i.zero with
  | none => simp [hi, hz] at h
  | some zv =>
    simp [hi, hz] at h
    subst h
    have key : ∀ bm L w, LRel bm L w (ofConst zv).cells zv.cells.toList := fun bm L w => (ofConst_rel bm L w zv).cells hs
    refine ⟨zv, rfl, ?_, key⟩
    have := (key [] ⟨fun _ => none, fun _ => 0, fun _ => (0, 0), 0, fun _ => none⟩ default).length
    simpa using this.symm

theorem tbytes_spec {t : TypeId} {i : TypeInfo} {n : Nat} (h : tbytes P t = some n) (hi : P.info? t = some i) : i.bytes = n := by
  simpa [tbytes, hi] using h

theorem run_append_none (w : World) {t ty e : TypeId} {i : TypeInfo} (ht : P.underlying t = some (.slice e)) (hi : P.info? e = some i) (ad : Option Addr) (sLen sCap : Nat) (hl : sLen ≤ sCap) (b : Option Addr) (c : Nat) :
    (Builtin.append_ #[t, t] ty #[.slice ad sLen sCap, .slice b 0 c]).run P w = .ok (.slice ad sLen sCap) w := by
  have hf : (Builtin.firstCells i.size 0 (.slice b 0 c)).run P w = .ok #[] w := by
    cases b <;> simp [Builtin.firstCells, loadCells, loadCellsFrom]
  cases ad <;> simp [Builtin.append_, run_underlying ht, Go.sizeOf, typeInfo, hi, Builtin.lenOf, hl, hf, storeCells]


/-- What a grown row holds: the old cells, the new ones, and noughts. -/
theorem VRel.grown (h : Base L w) {w1 : World} {el : TypeId} {olds news : List Value} {rest : Array Value} (hw : w1.heap = w.heap.push (.cells (olds.toArray ++ news.toArray ++ rest) el (0, 0))) (f m cap : Nat) (es es2 : List PV) (hcap : es.length + es2.length ≤ cap) (hC : cap * m ≤ (olds.toArray ++ news.toArray ++ rest).size)
    (ho : olds.length = es.length * m)
    (h1 : ∀ (j : Nat) (e : PV), es[j]? = some e → e.cells.length = m ∧ ∀ (t : Nat) (c : PV), e.cells[t]? = some c → ∃ v, olds[j * m + t]? = some v ∧ v.oneCell' = true ∧ VRel [] L w c v)
    (h2 : ∀ (j : Nat) (e : PV), es2[j]? = some e → e.cells.length = m ∧ ∀ (t : Nat) (c : PV), e.cells[t]? = some c → ∃ v, news[j * m + t]? = some v ∧ v.oneCell' = true ∧ VRel [] L w c v) :
    VRel bm (L.row w.heap.size f ((es.length + es2.length) * m)) w1 (.sl ⟨f, L.nx, 0⟩ m (es ++ es2)) (.slice (some ⟨w.heap.size, 0, none⟩) (es.length + es2.length) cap) := by
  have := VRel.row (bm := bm) h hw f m cap (es ++ es2) (by simpa using hcap) hC (by
    intro j e he
    rw [List.getElem?_append] at he
    split at he
    · obtain ⟨k1, k2⟩ := h1 j e he
      refine ⟨k1, fun t c hc => ?_⟩
      obtain ⟨v, hv, hv1, hr⟩ := k2 t c hc
      refine ⟨v, ?_, hv1, hr⟩
      have hlt := (List.getElem?_eq_some_iff.1 hv).1
      rw [Array.getElem?_append_left (by simp; omega), Array.getElem?_append_left (by simpa using hlt)]
      simpa using hv
    · rename_i hj
      obtain ⟨k1, k2⟩ := h2 _ e he
      refine ⟨k1, fun t c hc => ?_⟩
      obtain ⟨v, hv, hv1, hr⟩ := k2 t c hc
      refine ⟨v, ?_, hv1, hr⟩
      have hlt := (List.getElem?_eq_some_iff.1 hv).1
      have e1 : j * m + t = es.length * m + ((j - es.length) * m + t) := by
        rw [← Nat.add_assoc, ← Nat.add_mul]; congr 2; omega
      rw [Array.getElem?_append_left (by simp; omega), Array.getElem?_append_right (by simp; omega)]
      simp only [List.size_toArray, ho, e1, Nat.add_sub_cancel_left]
      simpa using hv)
  simpa using this

theorem append_sound (h : Sim bm L s a w) (o : Oper) (x y : Operand) (t : TypeId) (ts : Array TypeId) (args : Array Operand) (ho : o.op = .call { callee := .builtin .append, args := args, argTypes := ts }) (hargs : args.toList = [x, y]) (hts : ts.toList = [t, t]) {K : St → PV → Prop} (hp : appendP P s t (s.ev x) (s.ev y) K) :
    ∃ w' V L' s' v, (execOp a.eval o).run P w = .ok (.value V) w' ∧ Sim bm L' s' a w' ∧ Gua bm bm s.n0 s.D L w L' w' ∧ VRel bm L' w' v V ∧ K s' v ∧ s'.n0 = s.n0 ∧ s'.nt = s.nt ∧ s'.D = s.D := by
  have hargs' : args = #[x, y] := by rw [← hargs]
  have hts' : ts = #[t, t] := by rw [← hts]
  subst hargs' hts'
  have hx := h.ev x
  have hy := h.ev y
  unfold appendP at hp
  split at hp
  · rename_i i z es i2 z2 es2 e hex hey hte
    rw [hex] at hx; rw [hey] at hy
    split at hp
    · rename_i m by_ hm hby
      obtain ⟨hm0, hb0, hfit, hz2, ⟨zz, hzz, hzs, hzl⟩, hp⟩ := hp
      obtain ⟨inf, hinf, hisz⟩ := tsize_spec hm
      have hiby := tbytes_spec hby hinf
      obtain ⟨zv, hzv, hzvs, _⟩ := tzero_spec hzz hinf hzs
      have hd := tslice_spec hte
      subst hisz
      subst hiby
      unfold VRel at hx hy
      obtain ⟨ad, cap, hx, hx'⟩ := hx
      obtain ⟨ad2, cap2, hy, hy'⟩ := hy
      have hexec : ∀ r, (Builtin.append_ #[t, t] o.type #[.slice ad es.length cap, .slice ad2 es2.length cap2]).run P w = r → (execOp a.eval o).run P w = r.andThen fun v w' => .ok (.value v) w' := by
        intro r hr
        subst hr
        simp [execOp, ho, resolve, invoke, builtin, hx, hy]
      -- the cells that are appended
      have hnews : ∃ news : List Value, news.length = es2.length * inf.size ∧ (es2 ≠ [] → ∃ b2 o2, ad2 = some ⟨b2, o2, none⟩ ∧ ∀ j v, news[j]? = some v → w.cell? ((⟨b2, o2, none⟩ : Addr).add j) = some v) ∧ (∀ u ∈ news, u.oneCell' = true) ∧
          (∀ (j : Nat) (e : PV), es2[j]? = some e → e.cells.length = inf.size ∧ ∀ (t : Nat) (c : PV), e.cells[t]? = some c → ∃ v, news[j * inf.size + t]? = some v ∧ v.oneCell' = true ∧ VRel [] L w c v) := by
        rcases hy' with ⟨e0, _⟩ | ⟨b2, o2, rfl, hs2, hE2⟩
        · subst e0; exact ⟨[], by simp, fun hne => absurd rfl hne, by simp, by simp⟩
        · by_cases e0 : es2 = []
          · subst e0; exact ⟨[], by simp, fun hne => absurd rfl hne, by simp, by simp⟩
          · have hzm : z2 = inf.size := hz2.resolve_right e0
            subst hzm
            obtain ⟨vs, h1, h2, h3⟩ := hE2.values
            refine ⟨vs, h1, fun _ => ⟨b2, o2, rfl, fun j v hj => ?_⟩, fun u hu => ?_, h3⟩
            · rw [addr_add]; exact (h2 j v hj).1
            · obtain ⟨j, hj⟩ := List.mem_iff_getElem?.1 hu
              exact (h2 j u hj).2
      obtain ⟨news, hnl, hnc, hn1, hnr⟩ := hnews
      have h63 : ((es.length + es2.length : Nat) : Int) ≤ 9223372036854775807 := by
        have : es.length + es2.length ≤ (es.length + es2.length) * inf.bytes := Nat.le_mul_of_pos_right _ hb0
        omega
      have hn0 := h.n0
      -- a grown row
      have grow : ∀ (olds : List Value) (f : Nat) (tips : List (Nat × Nat × Nat)), (s.n0 ≤ f ∧ f < s.next + 1) → olds.length = es.length * inf.size → cap < es.length + es2.length →
          (∀ x, x ∈ tips → x = (s.next, f, (es.length + es2.length) * inf.size) ∨ x ∈ s.tips) →
          (∀ (j : Nat) (e : PV), es[j]? = some e → e.cells.length = inf.size ∧ ∀ (t : Nat) (c : PV), e.cells[t]? = some c → ∃ v, olds[j * inf.size + t]? = some v ∧ v.oneCell' = true ∧ VRel [] L w c v) →
          ∃ L', Sim bm L' { s with next := s.next + 1, tips := tips } a (w.drew.alloc (.cells (olds.toArray ++ news.toArray ++ Builtin.zeroCells zv.cells (grownCap w (es.length + es2.length) cap e - (es.length + es2.length))) e)) ∧
            Gua bm bm s.n0 s.D L w L' (w.drew.alloc (.cells (olds.toArray ++ news.toArray ++ Builtin.zeroCells zv.cells (grownCap w (es.length + es2.length) cap e - (es.length + es2.length))) e)) ∧
            VRel bm L' (w.drew.alloc (.cells (olds.toArray ++ news.toArray ++ Builtin.zeroCells zv.cells (grownCap w (es.length + es2.length) cap e - (es.length + es2.length))) e))
              (.sl ⟨f, s.next, 0⟩ inf.size (es ++ es2)) (.slice (some ⟨w.heap.size, 0, none⟩) (es.length + es2.length) (grownCap w (es.length + es2.length) cap e)) := by
        intro olds f tips hf hol hlt htips hor
        have hge := grownCap_ge w (es.length + es2.length) cap e
        have hw : (w.drew.alloc (.cells (olds.toArray ++ news.toArray ++ Builtin.zeroCells zv.cells (grownCap w (es.length + es2.length) cap e - (es.length + es2.length))) e)).heap = w.heap.push (.cells (olds.toArray ++ news.toArray ++ Builtin.zeroCells zv.cells (grownCap w (es.length + es2.length) cap e - (es.length + es2.length))) e (0, 0)) := rfl
        refine ⟨L.row w.heap.size f ((es.length + es2.length) * inf.size), h.row hw hf _ tips htips, Gua.newRow h.base bm s.n0 s.D hw rfl rfl rfl f _, ?_⟩
        rw [← h.nx]
        refine VRel.grown h.base hw f inf.size _ es es2 hge ?_ hol hor hnr
        simp only [Array.size_append, List.size_toArray, size_zeroCells, hol, hnl, hzvs, hzl]
        rw [← Nat.add_mul, ← Nat.add_mul]
        exact Nat.mul_le_mul_right _ (by omega)
      split at hp
      · -- to nil
        rename_i hg0
        obtain ⟨he0, hne2, hK⟩ := hp
        subst he0
        have hcap0 : cap = 0 := by
          rcases hx' with ⟨_, hc⟩ | ⟨b, ob, _, hs, _⟩
          · exact hc
          · have := hs.g0; omega
        subst hcap0
        obtain ⟨b2, o2, rfl, hcells⟩ := hnc hne2
        have hl2 : 0 < es2.length := List.length_pos_iff.2 hne2
        obtain ⟨L', hS, hG, hV⟩ := grow [] s.next ((s.next, s.next, es2.length * inf.size) :: s.tips) ⟨hn0.2, by omega⟩ (by simp) (by simpa using hl2) (by
          intro x hx; simp only [List.mem_cons] at hx; simpa using hx) (by simp)
        have hrun : (Builtin.append_ #[t, t] o.type #[.slice ad 0 0, .slice (some ⟨b2, o2, none⟩) es2.length cap2]).run P w =
            .ok (.slice (some ⟨w.heap.size, 0, none⟩) (([] : List PV).length + es2.length) (grownCap w (([] : List PV).length + es2.length) 0 e)) (w.drew.alloc (.cells (([] : List Value).toArray ++ news.toArray ++ Builtin.zeroCells zv.cells (grownCap w (([] : List PV).length + es2.length) 0 e - (([] : List PV).length + es2.length))) e)) := by
          simp only [List.length_nil, Nat.zero_add] at hfit h63 ⊢
          cases ad with
          | none =>
            have := run_append_nil w t o.type e inf zv hd hinf hzv ⟨b2, o2, none⟩ es2.length cap2 news hnl hcells hl2 h63 (by omega)
            simpa using this
          | some b =>
            have := run_append_grow w t o.type e inf zv hd hinf hzv b 0 0 [] (by simp) (by simp) ⟨b2, o2, none⟩ es2.length cap2 news hnl hcells (by omega) (by simpa using h63) (growslice_fits (by omega) (by simpa using hfit))
            simpa using this
        refine ⟨_, _, L', _, _, by rw [hexec _ hrun]; rfl, hS, hG, hV, ?_, rfl, rfl, rfl⟩
        simpa [St.fresh] using hK
      · -- to a row of the frame's own
        rename_i hg0
        obtain ⟨hzm, htip, hK⟩ := hp
        subst hzm
        have hmem := tipOf_mem htip
        obtain ⟨hgl, hfl, b, base, hpl, hfam, hf0, hlim⟩ := h.tips _ _ _ hmem
        obtain ⟨cur, el, hcur⟩ := h.base.own b _ hfam (by omega)
        by_cases hroom : es.length + es2.length ≤ cap
        · -- there is room
          rcases hx' with ⟨he0, hc0⟩ | ⟨b', ob, rfl, hs, hE⟩
          · have he2 : es2 = [] := List.eq_nil_of_length_eq_zero (by omega)
            subst he0 he2
            have hrun := run_append_none (P := P) w (ty := o.type) hd hinf ad 0 cap (by omega) ad2 cap2
            obtain ⟨hS, hG⟩ := h.more hfam hf0 hcur (base + i.off) 0 hmem hpl (by simp at hlim ⊢; omega) cur rfl (fun _ _ => rfl)
            rw [setRow_self w b cur el (0, 0) hcur] at hS hG
            refine ⟨w, .slice ad 0 cap, _, s.regrown i.g i.f 0, .sl ⟨i.f, s.next, 0⟩ inf.size [], by rw [hexec _ hrun]; rfl, hS, hG, ?_, by simpa using hK, rfl, rfl, rfl⟩
            unfold VRel
            exact ⟨ad, cap, rfl, .inl ⟨rfl, hc0⟩⟩
          · obtain ⟨base', hpl', hob⟩ := hs.hpl
            rw [hpl] at hpl'; cases hpl'
            obtain ⟨C, el', fz, hC, hsz⟩ := hs.hrow
            rw [hcur] at hC; cases hC
            have hend : ob + es.length * inf.size = L.lim b := by omega
            have hsum : (es.length + es2.length) * inf.size ≤ cap * inf.size := Nat.mul_le_mul_right _ hroom
            rw [Nat.add_mul] at hsum
            let cs : Array Value := (cur.toList.take (ob + es.length * inf.size) ++ news ++ cur.toList.drop (ob + es.length * inf.size + news.length)).toArray
            have hcsz : cs.size = cur.size := by simp [cs]; omega
            have hcsl : ∀ j, j < L.lim b → cs[j]? = cur[j]? := by
              intro j hj
              simp only [cs, List.getElem?_toArray, List.append_assoc]
              rw [List.getElem?_append_left (by simp; omega), List.getElem?_take, if_pos (by omega)]
              simp
            have hrun : (Builtin.append_ #[t, t] o.type #[.slice (some ⟨b, ob, none⟩) es.length cap, .slice ad2 es2.length cap2]).run P w = .ok (.slice (some ⟨b, ob, none⟩) (es.length + es2.length) cap) (w.setRow b cs) := by
              by_cases e0 : es2 = []
              · subst e0
                have hn0' : news = [] := List.eq_nil_of_length_eq_zero (by simpa using hnl)
                have := run_append_none (P := P) w (ty := o.type) hd hinf (some ⟨b, ob, none⟩) es.length cap hs.hcap ad2 cap2
                have hce : cs = cur := by simp [cs, hn0']
                rw [hce, setRow_self w b cur el (0, 0) hcur]
                simpa using this
              · obtain ⟨b2, o2, rfl, hcells⟩ := hnc e0
                have hst := run_storeCells_at P b (ob + es.length * inf.size) el news 0 cur w hcur (by simp; omega) hn1
                simp only [Nat.add_zero] at hst
                have hff := run_firstCells_some (P := P) w inf.size es2.length ⟨b2, o2, none⟩ es2.length cap2 news hnl hcells
                simp [Builtin.append_, run_underlying hd, Go.sizeOf, typeInfo, hinf, Builtin.lenOf, hroom, hff, addr_add, hst, cs]
            obtain ⟨hS, hG⟩ := h.more hfam hf0 hcur ob ((es.length + es2.length) * inf.size) hmem hpl (by rw [Nat.add_mul]; omega) cs hcsz hcsl
            refine ⟨_, _, _, _, .sl ⟨i.f, s.next, 0⟩ inf.size (es ++ es2), by rw [hexec _ hrun]; rfl, hS, hG, ?_, hK, rfl, rfl, rfl⟩
            have hp := Pres.more hfam hcur [] ob (ob + (es.length + es2.length) * inf.size) (by rw [Nat.add_mul]; omega) cs hcsz hcsl
            unfold VRel
            refine ⟨some ⟨b, ob, none⟩, cap, by simp, .inr ⟨b, ob, rfl, ?_, ?_⟩⟩
            · refine ⟨hfam, by have := h.n0; show 0 < s.next; omega, by simp [Lay.more, h.nx], ⟨ob, by simp [Lay.more, h.nx], rfl⟩, by simp [Lay.more], by simpa using hroom, cs, el, (0, 0), setRow_get w b cs hcur, by omega⟩
            · refine ERel.of_get fun j e' he' => ?_
              rw [List.getElem?_append] at he'
              split at he'
              · rename_i hj
                obtain ⟨k1, k2⟩ := hE.get j e' he'
                refine ⟨k1, KRel.of_get fun t' c hc => ?_⟩
                obtain ⟨v, hv, hv1, hr⟩ := k2.get1 t' c hc
                have ht' : t' < inf.size := by rw [← k1]; exact (List.getElem?_eq_some_iff.1 hc).1
                have hle : (j + 1) * inf.size ≤ es.length * inf.size := Nat.mul_le_mul_right _ hj
                rw [Nat.add_mul] at hle
                exact ⟨v, by rw [hp.cell b _ hfam (by simp) _ (by omega)]; exact hv, hv1, VRel.pres0 hp hr⟩
              · rename_i hj
                obtain ⟨k1, k2⟩ := hnr _ e' he'
                refine ⟨k1, KRel.of_get fun t' c hc => ?_⟩
                obtain ⟨v, hv, hv1, hr⟩ := k2 t' c hc
                refine ⟨v, ?_, hv1, VRel.pres0 hp hr⟩
                have hlt := (List.getElem?_eq_some_iff.1 hv).1
                have e1 : ob + j * inf.size + t' = (ob + es.length * inf.size) + ((j - es.length) * inf.size + t') := by
                  have : j * inf.size = es.length * inf.size + (j - es.length) * inf.size := by rw [← Nat.add_mul]; congr 1; omega
                  omega
                rw [cell_of_row _ _ _ _ _ _ (setRow_get w b cs hcur)]
                simp only [cs, List.getElem?_toArray, List.append_assoc]
                have htake : (cur.toList.take (ob + es.length * inf.size)).length = ob + es.length * inf.size := by simp; omega
                rw [e1, List.getElem?_append_right (by omega), htake, Nat.add_sub_cancel_left, List.getElem?_append_left hlt]
                exact hv
        · -- a new row
          have hlt : cap < es.length + es2.length := by omega
          have htips : ∀ x, x ∈ (s.regrown i.g i.f ((es.length + es2.length) * inf.size)).tips → x = (s.next, i.f, (es.length + es2.length) * inf.size) ∨ x ∈ s.tips := by
            intro x hx
            simp only [St.regrown, List.mem_cons, List.mem_filter] at hx
            exact hx.imp id fun hx => hx.1
          have hnx := h.nx
          rcases hx' with ⟨he0, hc0⟩ | ⟨b', ob, rfl, hs, hE⟩
          · subst he0; subst hc0
            have hne2 : es2 ≠ [] := fun e0 => by subst e0; simp at hlt
            obtain ⟨b2, o2, rfl, hcells⟩ := hnc hne2
            have hl2 : 0 < es2.length := List.length_pos_iff.2 hne2
            obtain ⟨L', hS, hG, hV⟩ := grow [] i.f _ ⟨hf0, by omega⟩ (by simp) hlt htips (by simp)
            have hrun : (Builtin.append_ #[t, t] o.type #[.slice ad 0 0, .slice (some ⟨b2, o2, none⟩) es2.length cap2]).run P w =
                .ok (.slice (some ⟨w.heap.size, 0, none⟩) (([] : List PV).length + es2.length) (grownCap w (([] : List PV).length + es2.length) 0 e)) (w.drew.alloc (.cells (([] : List Value).toArray ++ news.toArray ++ Builtin.zeroCells zv.cells (grownCap w (([] : List PV).length + es2.length) 0 e - (([] : List PV).length + es2.length))) e)) := by
              simp only [List.length_nil, Nat.zero_add] at hfit h63 ⊢
              cases ad with
              | none =>
                have := run_append_nil w t o.type e inf zv hd hinf hzv ⟨b2, o2, none⟩ es2.length cap2 news hnl hcells hl2 h63 (by omega)
                simpa using this
              | some b =>
                have := run_append_grow w t o.type e inf zv hd hinf hzv b 0 0 [] (by simp) (by simp) ⟨b2, o2, none⟩ es2.length cap2 news hnl hcells (by omega) (by simpa using h63) (growslice_fits (by omega) (by simpa using hfit))
                simpa using this
            exact ⟨_, _, L', _, _, by rw [hexec _ hrun]; rfl, hS, hG, hV, by simpa [St.regrown] using hK, rfl, rfl, rfl⟩
          · have hne2 : es2 ≠ [] := fun e0 => by subst e0; have := hs.hcap; simp at hlt; omega
            obtain ⟨b2, o2, rfl, hcells⟩ := hnc hne2
            obtain ⟨olds, ho1, ho2, ho3⟩ := hE.values
            obtain ⟨L', hS, hG, hV⟩ := grow olds i.f _ ⟨hf0, by omega⟩ ho1 hlt htips ho3
            have hrun := run_append_grow w t o.type e inf zv hd hinf hzv ⟨b', ob, none⟩ es.length cap olds ho1 (fun j v hj => by rw [addr_add]; exact (ho2 j v hj).1) ⟨b2, o2, none⟩ es2.length cap2 news hnl hcells (by omega) h63 (growslice_fits (by omega) hfit)
            exact ⟨_, _, L', _, _, by rw [hexec _ hrun]; rfl, hS, hG, hV, hK, rfl, rfl, rfl⟩
    · exact hp.elim
  · exact hp.elim
end
end Go.Proofs.YtphndngifjgeoaaGreatDoor
