/- The by-value logic, part A: pure values, their relation to the model's values in a world, and that it lasts while the cells that it reads last; for every world and every layout. -/
import Derived.Orders
import Derived.Below
import Derived.KernelRfl
import Derived.Test.YtphndngifjgeoaaGreatDoorBvT
set_option linter.unusedVariables false
set_option linter.unusedSimpArgs false
namespace Go.Proofs.YtphndngifjgeoaaGreatDoor

/-- A slice's name: its family (what may share memory), its version (where it lies), its first cell behind the version's base. -/
structure Sid where
  f : Nat
  g : Nat
  off : Nat
instance : DecidableEq Sid := fun a b => decidable_of_iff (a.f = b.f ∧ a.g = b.g ∧ a.off = b.off) (by cases a; cases b; simp)

/-- What a map's entries keep to. -/
abbrev MInv := Int → Int → Int → Prop

inductive PV where
  | undef
  | bool (b : Bool)
  | int (k : IntKind) (n : Int)
  | float (k : FloatKind) (n : Nat)
  | sl (i : Sid) (z : Nat) (es : List PV)
  | agg (cs : List PV)
  | tup (cs : List PV)
  | box (k : Nat) (off : Nat)
  | gp (b : Nat) (off : Nat)
  | elt (i : Sid) (z : Nat) (es : List PV) (j c : Nat)
  | fn (f : FuncId) (caps : List PV)
  | map (I : MInv)
instance : Inhabited PV := ⟨.undef⟩

def PV.cells : PV → List PV
  | .agg cs => cs
  | v => [v]

/-- A value of one cell that is known. -/
def PV.isCell : PV → Bool
  | .undef | .agg _ | .tup _ => false
  | _ => true

/-- Bears no pointer to a box of the frame. -/
def PV.closed : PV → Bool
  | .bool _ | .int _ _ | .float _ _ | .sl _ _ _ | .elt _ _ _ _ _ | .map _ => true
  | .agg cs => cs.all fun | .bool _ | .int _ _ | .float _ _ | .sl _ _ _ | .elt _ _ _ _ _ | .map _ => true | _ => false
  | .fn _ [] => true
  | _ => false

/-- Where things lie: families of blocks, how much of each is in use, the versions' places; all names are below nx. -/
structure Lay where
  fam : Nat → Option Nat
  lim : Nat → Nat
  pl : Nat → Nat × Nat
  nx : Nat
  mp : Nat → Option MInv

/-- A slice of n elements of z cells lies at cell o of block b. -/
structure SlAt (L : Lay) (w : World) (i : Sid) (z n cap b o : Nat) : Prop where
  hfam : L.fam b = some i.f
  g0 : 0 < i.g
  gl : i.g < L.nx
  hpl : ∃ base, L.pl i.g = (b, base) ∧ o = base + i.off
  hlim : o + n * z ≤ L.lim b
  hcap : n ≤ cap
  hrow : ∃ C el fz, w.heap[b]? = some (.cells C el fz) ∧ o + cap * z ≤ C.size

mutual
def VRel (bm : List Nat) (L : Lay) (w : World) : PV → Value → Prop
  | .undef, _ => True
  | .bool b, v => v = .bool b
  | .int k n, v => v = .int k n
  | .float k n, v => v = .float k n
  | .sl i z es, v => ∃ a cap, v = .slice a es.length cap ∧ ((es = [] ∧ cap = 0) ∨ ∃ b o, a = some ⟨b, o, none⟩ ∧ SlAt L w i z es.length cap b o ∧ ERel L w z b es o)
  | .agg cs, v => ∃ C, v = .agg C ∧ LRel bm L w cs C.toList
  | .tup cs, v => ∃ C, v = .tuple C ∧ LRel bm L w cs C.toList
  | .box k off, v => ∃ b, bm[k]? = some b ∧ v = .pointer (some ⟨b, off, none⟩)
  | .gp b off, v => v = .pointer (some ⟨b, off, none⟩)
  | .elt i z es j c, v => ∃ b o cap, v = .pointer (some ⟨b, o + j * z + c, none⟩) ∧ SlAt L w i z es.length cap b o ∧ ERel L w z b es o
  | .fn f caps, v => ∃ C, v = .func (.func f) #[] C ∧ LRel bm L w caps C.toList
  | .map I, v => ∃ b, v = .map (some b) ∧ L.mp b = some I
def LRel (bm : List Nat) (L : Lay) (w : World) : List PV → List Value → Prop
  | [], l => l = []
  | c :: cs, l => ∃ v vs, l = v :: vs ∧ VRel bm L w c v ∧ LRel bm L w cs vs
/-- Elements of z cells each, from cell o of block b on. -/
def ERel (L : Lay) (w : World) (z b : Nat) : List PV → Nat → Prop
  | [], _ => True
  | .agg cs :: es, o => cs.length = z ∧ KRel L w b cs o ∧ ERel L w z b es (o + z)
  | e :: es, o => z = 1 ∧ (∃ v, w.cell? ⟨b, o, none⟩ = some v ∧ v.oneCell' = true ∧ VRel [] L w e v) ∧ ERel L w z b es (o + z)
/-- Cells, from cell o of block b on. -/
def KRel (L : Lay) (w : World) (b : Nat) : List PV → Nat → Prop
  | [], _ => True
  | c :: cs, o => (∃ v, w.cell? ⟨b, o, none⟩ = some v ∧ v.oneCell' = true ∧ VRel [] L w c v) ∧ KRel L w b cs (o + 1)
end


/-- What lasts: L' and w' keep all that VRel reads of L and w, but for the cells of the families in F. -/
structure Pres (bm : List Nat) (L : Lay) (w : World) (bm' : List Nat) (L' : Lay) (w' : World) (F : List Nat) : Prop where
  hbm : ∀ (k b : Nat), bm[k]? = some b → bm'[k]? = some b
  nx : L.nx ≤ L'.nx
  pl : ∀ g, g < L.nx → L'.pl g = L.pl g
  fam : ∀ b f, L.fam b = some f → L'.fam b = some f
  lim : ∀ b f, L.fam b = some f → L.lim b ≤ L'.lim b
  cell : ∀ b f, L.fam b = some f → f ∉ F → ∀ off, off < L.lim b → w'.cell? ⟨b, off, none⟩ = w.cell? ⟨b, off, none⟩
  row : ∀ b f, L.fam b = some f → ∀ C el fz, w.heap[b]? = some (.cells C el fz) → ∃ C', w'.heap[b]? = some (.cells C' el fz) ∧ C'.size = C.size
  mp : ∀ b I, L.mp b = some I → L'.mp b = some I

theorem Pres.nil {bm : List Nat} {L : Lay} {w : World} {bm' : List Nat} {L' : Lay} {w' : World} {F : List Nat} (h : Pres bm L w bm' L' w' F) : Pres [] L w [] L' w' F :=
  ⟨fun k b hk => by simp at hk, h.nx, h.pl, h.fam, h.lim, h.cell, h.row, h.mp⟩

mutual
/-- What is read through a family of F is forgotten. -/
def PV.poison (F : List Nat) : PV → PV
  | .sl i z es => if i.f ∈ F then .undef else .sl i z (PV.poisonL F es)
  | .elt i z es j c => if i.f ∈ F then .undef else .elt i z (PV.poisonL F es) j c
  | .agg cs => .agg (PV.poisonL F cs)
  | .tup cs => .tup (PV.poisonL F cs)
  | .fn f cs => .fn f (PV.poisonL F cs)
  | .undef => .undef
  | .bool b => .bool b
  | .int k n => .int k n
  | .float k n => .float k n
  | .box k o => .box k o
  | .gp b o => .gp b o
  | .map I => .map I
def PV.poisonL (F : List Nat) : List PV → List PV
  | [] => []
  | c :: cs => PV.poison F c :: PV.poisonL F cs
end

mutual
theorem PV.poison_nil : ∀ v : PV, v.poison [] = v
  | .sl i z es => by simp [PV.poison, PV.poisonL_nil es]
  | .elt i z es j c => by simp [PV.poison, PV.poisonL_nil es]
  | .agg cs => by simp [PV.poison, PV.poisonL_nil cs]
  | .tup cs => by simp [PV.poison, PV.poisonL_nil cs]
  | .fn f cs => by simp [PV.poison, PV.poisonL_nil cs]
  | .undef => by simp [PV.poison]
  | .bool b => by simp [PV.poison]
  | .int k n => by simp [PV.poison]
  | .float k n => by simp [PV.poison]
  | .box k o => by simp [PV.poison]
  | .gp b o => by simp [PV.poison]
  | .map I => by simp [PV.poison]
theorem PV.poisonL_nil : ∀ l : List PV, PV.poisonL [] l = l
  | [] => by simp [PV.poisonL]
  | c :: cs => by simp [PV.poisonL, PV.poison_nil c, PV.poisonL_nil cs]
end

theorem PV.poisonL_length (F : List Nat) : ∀ l : List PV, (PV.poisonL F l).length = l.length
  | [] => by simp [PV.poisonL]
  | c :: cs => by simp [PV.poisonL, PV.poisonL_length F cs]

theorem PV.poisonL_map (F : List Nat) : ∀ l : List PV, PV.poisonL F l = l.map (PV.poison F)
  | [] => by simp [PV.poisonL]
  | c :: cs => by simp [PV.poisonL, PV.poisonL_map F cs]

section
variable {bm : List Nat} {L : Lay} {w : World} {bm' : List Nat} {L' : Lay} {w' : World} {F : List Nat}

theorem SlAt.pres {i : Sid} {z n cap b o : Nat} (hp : Pres bm L w bm' L' w' F) (h : SlAt L w i z n cap b o) : SlAt L' w' i z n cap b o := by
  obtain ⟨h1, h2, h3, ⟨base, h4, h5⟩, h6, h7, C, el, fz, h8, h9⟩ := h
  obtain ⟨C', h10, h11⟩ := hp.row b i.f h1 C el fz h8
  have := hp.nx
  exact ⟨hp.fam b i.f h1, h2, by omega, ⟨base, by rw [hp.pl _ h3]; exact h4, h5⟩, Nat.le_trans h6 (hp.lim b i.f h1), h7, C', el, fz, h10, by omega⟩

/-- An element that is no struct: one cell. -/
theorem ERel_cell (z b : Nat) (e : PV) (es : List PV) (o : Nat) (h : ∀ cs, e ≠ .agg cs) :
    ERel L w z b (e :: es) o ↔ (z = 1 ∧ (∃ v, w.cell? ⟨b, o, none⟩ = some v ∧ v.oneCell' = true ∧ VRel [] L w e v) ∧ ERel L w z b es (o + z)) := by
  cases e <;> first | exact absurd rfl (h _) | (conv => lhs; unfold ERel) <;> exact Iff.rfl

theorem ERel_agg (z b : Nat) (cs es : List PV) (o : Nat) :
    ERel L w z b (.agg cs :: es) o ↔ (cs.length = z ∧ KRel L w b cs o ∧ ERel L w z b es (o + z)) := by
  conv => lhs; unfold ERel

mutual
theorem VRel.pres {L : Lay} {w : World} {L' : Lay} {w' : World} {F : List Nat} : ∀ (p : PV) (bm bm' : List Nat) (_ : Pres bm L w bm' L' w' F) (v : Value), VRel bm L w p v → VRel bm' L' w' (p.poison F) v
  | .undef, bm, bm', hp, v, h => by simp [PV.poison, VRel]
  | .bool b, bm, bm', hp, v, h => by simpa [PV.poison, VRel] using h
  | .int k n, bm, bm', hp, v, h => by simpa [PV.poison, VRel] using h
  | .float k n, bm, bm', hp, v, h => by simpa [PV.poison, VRel] using h
  | .sl i z es, bm, bm', hp, v, h => by
    simp only [PV.poison]
    split
    · simp [VRel]
    · rename_i hf
      unfold VRel at h ⊢
      obtain ⟨a, cap, rfl, h⟩ := h
      rw [PV.poisonL_length]
      refine ⟨a, cap, rfl, ?_⟩
      rcases h with ⟨rfl, hc⟩ | ⟨b, o, ha, hs, he⟩
      · exact .inl ⟨by simp [PV.poisonL], hc⟩
      · refine .inr ⟨b, o, ha, hs.pres hp, ERel.pres hp b i.f hs.hfam hf z es o ?_ he⟩
        exact hs.hlim
  | .elt i z es j c, bm, bm', hp, v, h => by
    simp only [PV.poison]
    split
    · simp [VRel]
    · rename_i hf
      unfold VRel at h ⊢
      obtain ⟨b, o, cap, rfl, hs, he⟩ := h
      rw [PV.poisonL_length]
      exact ⟨b, o, cap, rfl, hs.pres hp, ERel.pres hp b i.f hs.hfam hf z es o hs.hlim he⟩
  | .agg cs, bm, bm', hp, v, h => by
    unfold VRel at h
    obtain ⟨C, rfl, h⟩ := h
    simp only [PV.poison]; unfold VRel
    exact ⟨C, rfl, LRel.pres cs bm bm' hp _ h⟩
  | .tup cs, bm, bm', hp, v, h => by
    unfold VRel at h
    obtain ⟨C, rfl, h⟩ := h
    simp only [PV.poison]; unfold VRel
    exact ⟨C, rfl, LRel.pres cs bm bm' hp _ h⟩
  | .box k o, bm, bm', hp, v, h => by
    unfold VRel at h
    obtain ⟨b, hb, rfl⟩ := h
    simp only [PV.poison]; unfold VRel
    exact ⟨b, hp.hbm k b hb, rfl⟩
  | .gp b o, bm, bm', hp, v, h => by simpa [PV.poison, VRel] using h
  | .map I, bm, bm', hp, v, h => by
    unfold VRel at h
    obtain ⟨b, rfl, hb⟩ := h
    simp only [PV.poison]; unfold VRel
    exact ⟨b, rfl, hp.mp b I hb⟩
  | .fn f cs, bm, bm', hp, v, h => by
    unfold VRel at h
    obtain ⟨C, rfl, h⟩ := h
    simp only [PV.poison]; unfold VRel
    exact ⟨C, rfl, LRel.pres cs bm bm' hp _ h⟩
  termination_by p => SizeOf.sizeOf p
theorem LRel.pres {L : Lay} {w : World} {L' : Lay} {w' : World} {F : List Nat} : ∀ (l : List PV) (bm bm' : List Nat) (_ : Pres bm L w bm' L' w' F) (vs : List Value), LRel bm L w l vs → LRel bm' L' w' (PV.poisonL F l) vs
  | [], bm, bm', hp, vs, h => by simpa [PV.poisonL, LRel] using h
  | c :: cs, bm, bm', hp, vs, h => by
    unfold LRel at h
    obtain ⟨v, vs', rfl, h1, h2⟩ := h
    simp only [PV.poisonL]; unfold LRel
    exact ⟨v, vs', rfl, VRel.pres c bm bm' hp v h1, LRel.pres cs bm bm' hp vs' h2⟩
  termination_by l => SizeOf.sizeOf l
theorem ERel.pres {bm : List Nat} {L : Lay} {w : World} {bm' : List Nat} {L' : Lay} {w' : World} {F : List Nat} (hp : Pres bm L w bm' L' w' F) (b f : Nat) (hb : L.fam b = some f) (hf : f ∉ F) (z : Nat) : ∀ (es : List PV) (o : Nat), o + es.length * z ≤ L.lim b → ERel L w z b es o → ERel L' w' z b (PV.poisonL F es) o
  | [], o, _, h => by simp [PV.poisonL, ERel]
  | .agg cs :: es, o, hl, h => by
    rw [ERel_agg] at h
    obtain ⟨h1, h2, h3⟩ := h
    simp only [List.length_cons, Nat.add_mul, Nat.one_mul] at hl
    simp only [PV.poisonL, PV.poison]
    rw [ERel_agg]
    exact ⟨by rw [PV.poisonL_length]; exact h1, KRel.pres hp b f hb hf cs o (by omega) h2, ERel.pres hp b f hb hf z es (o + z) (by omega) h3⟩
  | e :: es, o, hl, h => by
    by_cases ha : ∃ cs, e = .agg cs
    · obtain ⟨cs, rfl⟩ := ha
      rw [ERel_agg] at h
      obtain ⟨h1, h2, h3⟩ := h
      simp only [List.length_cons, Nat.add_mul, Nat.one_mul] at hl
      simp only [PV.poisonL, PV.poison]
      rw [ERel_agg]
      exact ⟨by rw [PV.poisonL_length]; exact h1, KRel.pres hp b f hb hf cs o (by omega) h2, ERel.pres hp b f hb hf z es (o + z) (by omega) h3⟩
    · have ha' : ∀ cs, e ≠ .agg cs := fun cs hc => ha ⟨cs, hc⟩
      rw [ERel_cell _ _ _ _ _ ha'] at h
      obtain ⟨h1, ⟨v, h2, h2', h3⟩, h4⟩ := h
      simp only [List.length_cons, Nat.add_mul, Nat.one_mul] at hl
      simp only [PV.poisonL]
      have hp' : ∀ cs, PV.poison F e ≠ .agg cs := by
        intro cs hc
        cases e <;> simp [PV.poison] at hc <;> first | exact absurd rfl (ha' _) | (split at hc <;> simp at hc)
      rw [ERel_cell _ _ _ _ _ hp']
      exact ⟨h1, ⟨v, by rw [hp.cell b f hb hf o (by omega)]; exact h2, h2', VRel.pres e [] [] hp.nil v h3⟩, ERel.pres hp b f hb hf z es (o + z) (by omega) h4⟩
  termination_by es => SizeOf.sizeOf es
theorem KRel.pres {bm : List Nat} {L : Lay} {w : World} {bm' : List Nat} {L' : Lay} {w' : World} {F : List Nat} (hp : Pres bm L w bm' L' w' F) (b f : Nat) (hb : L.fam b = some f) (hf : f ∉ F) : ∀ (cs : List PV) (o : Nat), o + cs.length ≤ L.lim b → KRel L w b cs o → KRel L' w' b (PV.poisonL F cs) o
  | [], o, _, h => by simp [PV.poisonL, KRel]
  | c :: cs, o, hl, h => by
    unfold KRel at h
    obtain ⟨⟨v, h1, h1', h2⟩, h3⟩ := h
    simp only [List.length_cons] at hl
    simp only [PV.poisonL]; unfold KRel
    exact ⟨⟨v, by rw [hp.cell b f hb hf o (by omega)]; exact h1, h1', VRel.pres c [] [] hp.nil v h2⟩, KRel.pres hp b f hb hf cs (o + 1) (by omega) h3⟩
  termination_by cs => SizeOf.sizeOf cs
end
end

end Go.Proofs.YtphndngifjgeoaaGreatDoor
