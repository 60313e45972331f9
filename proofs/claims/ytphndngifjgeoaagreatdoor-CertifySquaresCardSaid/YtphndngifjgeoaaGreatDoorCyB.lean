/- Tables of exact numbers, by value: what stands at a place, a matrix's numbers, the sum of squares of differences, noughts. -/
import Derived.Test.YtphndngifjgeoaaGreatDoorCyA
set_option linter.unusedVariables false
set_option linter.unusedSimpArgs false
set_option maxRecDepth 20000
set_option maxHeartbeats 1000000
namespace Go.Proofs.YtphndngifjgeoaaGreatDoor
open Go.Proofs

/-- A number v times 2 to the L, its limbs where i says. -/
structure Dv where
  v : Int
  i : Sid
instance : Inhabited Dv := ⟨⟨0, ⟨0, 0, 0⟩⟩⟩
@[simp] def Dv.pv (L : Int) (d : Dv) : PV := NV L d.v d.i
def DvOk (n k : Nat) (l : List Dv) : Prop := ∀ d, d ∈ l → d.i.f < n ∧ sz d.v k
theorem DvOk.mono {n n' k k' : Nat} {l : List Dv} (h : DvOk n k l) (hn : n ≤ n') (hk : k ≤ k') : DvOk n' k' l := fun d hd => ⟨Nat.lt_of_lt_of_le (h d hd).1 hn, (h d hd).2.mono hk⟩
theorem DvOk.get {n k : Nat} {l : List Dv} (h : DvOk n k l) {q : Nat} (hq : q < l.length) : l[q].i.f < n ∧ sz l[q].v k := h _ (List.getElem_mem hq)
/-- A table. -/
@[simp] abbrev Tb (r c : Nat) (i : Sid) (z : Nat) (L : Int) (l : List Dv) : PV := .agg [.int .i64 (r : Int), .int .i64 (c : Int), .sl i z (l.map (Dv.pv L))]
/-- In other units. -/
theorem NV_units (L : Int) (v : Int) (t : Nat) (i : Sid) : NV L v i = NV (L - t) (v * 2 ^ t) i := by
  have h1 : dyM (v * 2 ^ t) = dyM v := dyM_mul _ _
  have h2 : dyE (v * 2 ^ t) (L - t) = dyE v (L - t + (t : Nat)) := dyE_mul _ _ _
  rw [show L - (t : Int) + (t : Nat) = L by omega] at h2
  simp only [NV, h1, h2]

theorem tipOf_drop {tips : List (Nat × Nat × Nat)} {g f g0 : Nat} (h : g ≠ g0) : tipOf (tips.filter fun x => x.1 != g0) g f = tipOf tips g f := by
  unfold tipOf
  congr 1
  induction tips with
  | nil => rfl
  | cons x t ih =>
    by_cases hx : x.1 = g0
    · have e1 : (x.1 != g0) = false := by simp [hx]
      have e2 : (x.1 == g) = false := by simp [hx]; omega
      simp [List.filter_cons, e1, List.find?_cons, e2, ih]
    · have e1 : (x.1 != g0) = true := by simp [hx]
      simp only [List.filter_cons, e1, if_true, List.find?_cons, ih]
theorem AppK_f {m by_ n nx len : Nat} {i i2 : Sid} {z : Nat} {es : List PV} {p : PV} {s : St} {K : St → PV → Prop} {tips0 : List (Nat × Nat × Nat)} {T : Nat} (hnx : s.next = nx + 1) (ht : s.tips = (nx, nx, T) :: tips0) (ht2 : Grow tips0 n nx i len) (hlen : len = es.length * m) (hz : i.g = 0 ∨ z = m) (hn : n ≤ nx) (hn0 : 0 < n) (hl : (es.length + 1) * by_ ≤ 140737488355328) (hm : 0 < m)
    (hK : ∀ (tips : List (Nat × Nat × Nat)) (i' : Sid), nx < i'.g → i'.off = 0 → Grow tips n (nx + 2) i' (len + m) → ((i.g = 0 ∧ i'.f = nx + 1) ∨ (i.g ≠ 0 ∧ i'.f = i.f)) → (∀ i2 len2, Grow tips0 n nx i2 len2 → i2.g = 0 ∨ i2.g ≠ i.g → Grow tips n (nx + 2) i2 len2) → K (s.bump (nx + 2) tips) (.sl i' m (es ++ [p]))) : AppK m by_ (.sl i z es) (.sl i2 m [p]) s K := by
  subst hlen
  unfold AppK
  simp only
  refine ⟨by simpa using hl, .inl trivial, ?_⟩
  have other : ∀ (tips' : List (Nat × Nat × Nat)) (g0 f0 T0 : Nat), tips' = (nx + 1, f0, T0) :: s.tips.filter (fun x => x.1 != g0) → (∀ i2 len2, Grow tips0 n nx i2 len2 → i2.g = 0 ∨ i2.g ≠ g0 → Grow tips' n (nx + 2) i2 len2) := by
    intro tips' g0 f0 T0 htp i3 l3 h3 h4
    subst htp
    rcases h3 with h3 | ⟨q1, q2, q3, q4, q5, q6⟩
    · exact .inl h3
    · refine .inr ⟨q1, q2, ?_, q4, by omega, by omega⟩
      rw [tipOf_tail _ _ _ _ _ _ (by omega), tipOf_drop (by omega), ht, tipOf_tail _ _ _ _ _ _ (by omega)]
      exact q3
  rcases ht2 with ⟨rfl, h0⟩ | ⟨h1, h2', h3, h4, h5, h6⟩
  · have he : es = [] := by
      rcases Nat.eq_zero_or_pos es.length with e | e
      · exact List.eq_nil_of_length_eq_zero e
      · have := Nat.mul_pos e hm; omega
    subst he
    rw [if_pos rfl]
    refine ⟨rfl, by simp, ?_⟩
    rw [fresh_bump, hnx]
    refine hK _ ⟨nx + 1, nx + 1, 0⟩ (by show nx < nx + 1; omega) rfl ?_ (.inl ⟨rfl, rfl⟩) ?_
    · have := Grow.fresh s.tips (n := n) (nx := nx + 2) (g := nx + 1) (([p] : List PV).length * m) (by omega) (by omega) (by omega)
      simpa using this
    · intro i3 l3 h3 _
      rcases h3 with h3 | ⟨q1, q2, q3, q4, q5, q6⟩
      · exact .inl h3
      · refine .inr ⟨q1, q2, ?_, q4, by omega, by omega⟩
        rw [tipOf_tail _ _ _ _ _ _ (by omega), ht, tipOf_tail _ _ _ _ _ _ (by omega)]
        exact q3
  · have hzz : z = m := hz.resolve_left (by omega)
    rw [if_neg (by omega)]
    have htip : tipOf s.tips i.g i.f = some (i.off + es.length * m) := by
      rw [ht, tipOf_tail _ _ _ _ _ _ (by omega), h3, h2']; simp
    refine ⟨hzz, htip, ?_⟩
    rw [regrown_bump, hnx]
    refine hK _ ⟨i.f, nx + 1, 0⟩ (by show nx < nx + 1; omega) rfl ?_ (.inr ⟨by omega, rfl⟩) (other _ i.g i.f _ rfl)
    refine .inr ⟨by show 0 < nx + 1; omega, rfl, ?_, h4, by show i.f < nx + 2; omega, by show nx + 1 < nx + 2; omega⟩
    rw [tipOf_head]
    simp [Nat.add_mul]
theorem AppK_z {m by_ n nx len : Nat} {i i2 : Sid} {z : Nat} {es : List PV} {p : PV} {s : St} {K : St → PV → Prop} {tips0 : List (Nat × Nat × Nat)} {T : Nat} (hnx : s.next = nx + 1) (ht : s.tips = (nx, nx, T) :: tips0) (ht2 : Grow tips0 n nx i len) (hlen : len = es.length * m) (hz : i.g = 0 ∨ z = m) (hn : n ≤ nx) (hn0 : 0 < n) (hl : (es.length + 1) * by_ ≤ 140737488355328) (hm : 0 < m)
    (hK : ∀ (tips : List (Nat × Nat × Nat)) (i' : Sid), nx < i'.g → i'.off = 0 → Grow tips n (nx + 2) i' (len + m) → (∀ i2 len2, Grow tips0 n nx i2 len2 → i2.g = 0 ∨ i2.g ≠ i.g → Grow tips n (nx + 2) i2 len2) → K (s.bump (nx + 2) tips) (.sl i' m (es ++ [p]))) : AppK m by_ (.sl i z es) (.sl i2 m [p]) s K := by
  subst hlen
  refine AppK_grow (n := n) (len := es.length * m) (by rw [ht, hnx]; exact (ht2.cons (Nat.le_refl _)).mono (by omega)) rfl (by omega) hn0 hz (by simpa using hl) hm (by simp) fun tips' i' g0 g1 g2 g3 => ?_
  rw [hnx] at g3 ⊢
  refine hK tips' i' (by omega) g2 (by simpa [Nat.add_mul] using g3) fun i3 l3 h3 h4 => ?_
  rcases h3 with h3 | ⟨q1, q2, q3, q4, q5, q6⟩
  · exact .inl h3
  · refine .inr ⟨q1, q2, ?_, q4, by omega, by omega⟩
    rw [g0 i3.g i3.f (by omega) (by omega), ht, tipOf_tail _ _ _ _ _ _ (by omega)]
    exact q3

theorem at_call {n : Nat} (hn : 0 < n) (r c : Nat) (i : Sid) (z : Nat) (L : Int) (l : List Dv) (a b q : Nat) (hq : a * c + b = q) (hl : q < l.length) (hll : l.length < 1000000) (hz : z = 3) (d : Dv) (hd : l[q] = d) {Q : PV → Nat → List Nat → Prop}
    (hQ : Q (NV L d.v d.i) n []) : PCall Tryz.prog 41 [Tb r c i z L l, .int .i64 (a : Int), .int .i64 (b : Int)] n Q := by
  subst hz
  obtain ⟨p, hp⟩ : ∃ p, p = a * c := ⟨_, rfl⟩
  rw [← hp] at hq
  have hw1 : IntKind.i64.wrap ((a : Int) * (c : Int)) = (p : Int) := by
    rw [show (a : Int) * (c : Int) = (p : Int) by rw [hp]; simp]
    exact wrap_i64_is rfl (by omega)
  have hw2 : IntKind.i64.wrap ((p : Int) + (b : Int)) = (q : Int) := wrap_i64_is (by omega) (by omega)
  have hlq : (q : Int) < (l.length : Int) := by omega
  refine of41 hn ?_
  simpa (disch := omega) [-wrap_i64_at, c41, hw1, hw2, hl, hlq, hd] using hQ

/-- A number's value in units of 2 to the -1074. -/
def uV (b : Nat) : Int := valZ b * 2 ^ (expo b + 1074).toNat
theorem uV_NV (b : Nat) (i : Sid) : D (decide (dyM (valZ b) < 0)) i (dig (dyM (valZ b)).natAbs) (dyE (valZ b) (expo b)) = NV (-1074) (uV b) i := by
  have he := expo_le b
  have h1 : dyM (uV b) = dyM (valZ b) := dyM_mul _ _
  have h2 : dyE (uV b) (-1074) = dyE (valZ b) (-1074 + ((expo b + 1074).toNat : Nat)) := dyE_mul _ _ _
  rw [show (-1074 : Int) + ((expo b + 1074).toNat : Nat) = expo b by omega] at h2
  simp only [NV, h1, h2]
theorem pow_bound {m e T : Nat} (hm : m < 2 ^ 53) (he : e ≤ T) (k : Nat) (hk : 53 + T ≤ 32 * k) : m * 2 ^ e < 4294967296 ^ k := by
  have h1 : (2 : Nat) ^ e ≤ 2 ^ T := Nat.pow_le_pow_right (by decide) he
  have hp : 0 < (2 : Nat) ^ T := Nat.two_pow_pos _
  have h2 : m * 2 ^ e < 2 ^ 53 * 2 ^ T := Nat.lt_of_le_of_lt (Nat.mul_le_mul_left _ h1) ((Nat.mul_lt_mul_right hp).2 hm)
  rw [← Nat.pow_add] at h2
  refine Nat.lt_of_lt_of_le h2 ?_
  rw [show (4294967296 : Nat) = 2 ^ 32 by decide, ← Nat.pow_mul]
  exact Nat.pow_le_pow_right (by decide) hk
theorem sz_uV (b : Nat) : sz (uV b) 66 := by
  have he := expo_le b
  have hm := mant_lt b
  have h0 : mant b < 2 ^ 53 := by rw [show (2 : Nat) ^ 53 = 9007199254740992 by decide]; exact hm
  unfold sz uV
  rw [Int.natAbs_mul, natAbs_two_pow, valZ_abs]
  exact pow_bound h0 (T := 2046) (by omega) 66 (by decide)

def ofI (r c : Nat) (i : Sid) (l : List Nat) (n : Nat) (k : Nat) (s : St) : Prop :=
  ∃ (j nx z : Nat) (o : Sid) (dl : List Dv) (B : List (List PV)) (b0 : List PV), j + k = l.length ∧
    At s 33 ([.int .i64 (r : Int), .int .i64 (c : Int), .sl i 1 (bts l)] :: [.int .i64 0, .int .i64 0, .sl ⟨0, 0, 0⟩ 1 []] :: [.int .i64 (r : Int), .int .i64 (c : Int), .sl o z (dl.map (Dv.pv (-1074)))] :: B) nx [(1, .box 0 0), (2, .box 1 0), (3, .box 2 0), (14, .sl i 1 (bts l)), (15, .int .i64 l.length), (16, .int .i64 j)] ∧
    Grow s.tips n nx o (j * 3) ∧ n ≤ nx ∧ dl.length = j ∧ (o.g = 0 ∨ z = 3) ∧ ∀ q (hq : q < dl.length) (hq2 : q < l.length), dl[q].v = uV l[q] ∧ newSid n nx dl[q].i
theorem cof_call {n : Nat} (hn : 0 < n) (r c : Nat) (i : Sid) (l : List Nat) (hl : l.length < 1000000) (hb : Bt l) (hf : l.all finB = true) {Q : PV → Nat → List Nat → Prop}
    (hQ : ∀ (o : Sid) (n' z : Nat) (dl : List Dv), n ≤ n' → newSid n n' o → dl.length = l.length → (z = 3 ∨ dl = []) → (∀ q (hq : q < dl.length) (hq2 : q < l.length), dl[q].v = uV l[q] ∧ newSid n n' dl[q].i) → Q (Tb r c o z (-1074) dl) n' []) : PCall Tryz.prog 12 [Mx r c i l] n Q := by
  refine of12 hn ?_
  simp (disch := omega) [c12]
  refine GO_loopN (ofI r c i l n) l.length ⟨0, n, 1, ⟨0, 0, 0⟩, [], [], [], by omega, by simp [At], .inl ⟨rfl, rfl⟩, by omega, rfl, .inl rfl, fun q hq => by simp at hq⟩ ?_
  rintro k s ⟨j, nx, z, o, dl, B, b0, hj, ⟨e1, e2, e3, e4, e5⟩, hg, hnx, hdl, hz, hv⟩
  simp at e5
  obtain ⟨e5, e6, e7, e8, e9, e10⟩ := e5
  by_cases hk : j < l.length
  · obtain ⟨x, hx⟩ : ∃ x, x = l[j] := ⟨_, rfl⟩
    have hfx : finB x = true := by rw [hx]; exact List.all_eq_true.1 hf _ (List.getElem_mem hk)
    simp (disch := omega) [c12L0, e1, e2, e3, e4, e5, e6, e7, e8, e9, e10, hk, ← hx]
    refine CallK.of (by simp) (Value_call (by omega) x (by rw [hx]; exact hb.get hk) (fun h => by rw [hfx] at h; cases h) fun _ i1 n1 g1 d1 => ?_)
    rw [uV_NV]
    simp (disch := omega) [e1, e2, e3, e4, e5, e6, e7, e8, e9, e10, g1]
    refine AppK_z (n := n) (nx := n1) (len := j * 3) (tips0 := s.tips) (T := 3) (by simp) (by simp) (hg.mono g1) (by simp [hdl]) hz (by omega) hn (by simp [hdl]; omega) (by omega) fun tips i' h1 h2 h3 h4 => ?_
    simp (disch := omega) [e1, e2, e3, e4, e5, e6, e7, e8, e9, e10, g1]
    refine ⟨k - 1, by omega, j + 1, n1 + 2, 3, i', dl ++ [⟨uV x, i1⟩], B ++ [NC (-1074) (uV x) i1], [], by omega, by simp [At, e1, e2, e3, e4, e5, e6, e7, e8, e9, e10], by rw [show (j + 1) * 3 = j * 3 + 3 by omega]; simpa using h3, by omega, by simp [hdl], .inr rfl, fun q hq hq2 => ?_⟩
    by_cases hqj : q < dl.length
    · have := hv q hqj hq2
      rw [List.getElem_append_left hqj]
      exact ⟨this.1, this.2.mono (by omega)⟩
    · have hqe : q = j := by simp at hq; omega
      subst hqe
      have e : (dl ++ [(⟨uV x, i1⟩ : Dv)])[q] = ⟨uV x, i1⟩ := by
        rw [List.getElem_append_right (by omega)]; simp [hdl]
      rw [e]
      exact ⟨by simp [hx], (show newSid n (n1 + 2) i1 from by rcases d1 with h | h; exact .inl h; exact .inr ⟨by omega, by omega⟩)⟩
  · have hjl : j = l.length := by omega
    have := hQ o nx z dl hnx hg.sid (by omega) (by
      rcases hz with h | h
      · right
        rcases hg with ⟨_, h0⟩ | ⟨h0, _⟩
        · exact List.eq_nil_of_length_eq_zero (by omega)
        · omega
      · exact .inl h) hv
    simpa (disch := omega) [c12L0, c12R0, e1, e2, e3, e4, e5, e6, e7, e8, e9, e10, hk, hnx] using this
end Go.Proofs.YtphndngifjgeoaaGreatDoor
