/- The determinant as the program reckons it, by value. -/
import Derived.Test.YtcdkgeeookcoeaaExC
set_option linter.unusedVariables false
set_option linter.unusedSimpArgs false
namespace Go.Proofs.Ytcdkgeeookcoeaa
open Go.Proofs

def Ent.num (e : Ent) : Int := numW e.n e.l
structure EOk (n b : Nat) (e : Ent) : Prop where
  f : e.i.f < n
  r : rightW e.n e.l = true
  l : Lim e.l
  b : e.l.length ≤ b
structure RwOk (n w b : Nat) (r : Rw) : Prop where
  f : r.i.f < n
  w : r.es.length = w
  e : ∀ e, e ∈ r.es → EOk n b e
def MxOk (n w b : Nat) (M : List Rw) : Prop := ∀ r, r ∈ M → RwOk n w b r
theorem EOk.mono {n n' b : Nat} {e : Ent} (h : EOk n b e) (hn : n ≤ n') : EOk n' b e := ⟨Nat.lt_of_lt_of_le h.f hn, h.r, h.l, h.b⟩
theorem RwOk.mono {n n' w b : Nat} {r : Rw} (h : RwOk n w b r) (hn : n ≤ n') : RwOk n' w b r := ⟨Nat.lt_of_lt_of_le h.f hn, h.w, fun e he => (h.e e he).mono hn⟩
theorem MxOk.mono {n n' w b : Nat} {M : List Rw} (h : MxOk n w b M) (hn : n ≤ n') : MxOk n' w b M := fun r hr => (h r hr).mono hn
theorem EOk.is {n b : Nat} {e : Ent} (h : EOk n b e) : e.n = decide (e.num < 0) ∧ e.l = dig e.num.natAbs ∧ sz e.num b := by
  obtain ⟨x, h1, h2⟩ := right_Z h.r h.l
  have hx : e.num = x := by unfold Ent.num; rw [h1, h2, numW_dig]
  rw [hx]
  refine ⟨h1, h2, ?_⟩
  have := h.b
  rw [h2] at this
  exact (sz_dig x).mono this
def Rw.f (r : Rw) : Nat → Int := fun c => match r.es[c]? with | some e => e.num | none => 0
def Mf (M : List Rw) : Nat → Nat → Int := fun i => match M[i]? with | some r => r.f | none => fun _ => 0
theorem map_f (M : List Rw) : M.map Rw.f = rowsOf M.length (Mf M) := by
  apply List.ext_getElem?
  intro i
  by_cases h : i < M.length
  · simp [h, Mf]
  · simp [h]

/-! ### how great determinants are -/
theorem sz_Sg {k : Nat} : ∀ (l : List Nat) {g : Nat → List Nat → Int}, (∀ c r, sz (g c r) k) → sz (Sg g l) (k + l.length)
  | [], g, h => by unfold Sg sz; exact Nat.pow_pos (by omega)
  | c :: l, g, h => by
    unfold Sg
    have := sz_Sg l (g := fun c' rest => g c' (c :: rest)) fun c' r => h c' _
    exact ((h c l).mono (show k ≤ k + l.length by omega)).sub this
theorem sz_Dt {b : Nat} : ∀ (rs : List (Nat → Int)) (cols : List Nat), (∀ r, r ∈ rs → ∀ c, sz (r c) b) → cols.length ≤ 6 → sz (Dt rs cols) (1 + rs.length * (b + 6))
  | [], cols, _, _ => by rw [Dt_nil]; unfold sz; exact Nat.one_lt_pow (by simp) (by omega)
  | r :: rs, cols, h, hc => by
    rw [Dt_cons]
    have : ∀ (l : List Nat) (pre : List Nat), pre.length + l.length ≤ 6 → sz (Sg (fun c rest => r c * Dt rs (pre ++ rest)) l) (1 + rs.length * (b + 6) + b + l.length) := by
      intro l
      induction l with
      | nil => intro pre _; unfold Sg sz; exact Nat.pow_pos (by omega)
      | cons c l ih =>
        intro pre hp
        unfold Sg
        simp at hp
        have h1 : sz (r c * Dt rs (pre ++ l)) (b + (1 + rs.length * (b + 6))) := (h r (by simp) c).mul (sz_Dt rs _ (fun r hr => h r (by simp [hr])) (by simp; omega))
        have h2 := ih (pre ++ [c]) (by simp; omega)
        have e : Sg (fun c' rest => r c' * Dt rs (pre ++ (c :: rest))) l = Sg (fun c' rest => r c' * Dt rs (pre ++ [c] ++ rest)) l := Sg_ext _ fun c' rest => by simp
        rw [e]
        exact (h1.mono (by omega)).sub h2 |>.mono (by simp; omega)
    have := this cols [] (by simpa using hc)
    simp only [List.nil_append] at this
    refine this.mono ?_
    simp only [List.length_cons, Nat.add_mul, Nat.one_mul]
    omega
theorem sz_f {n w b : Nat} {r : Rw} (h : RwOk n w b r) (c : Nat) : sz (r.f c) b := by
  unfold Rw.f
  cases hc : r.es[c]? with
  | none => unfold sz; exact Nat.pow_pos (by omega)
  | some e => exact (h.e e (List.mem_of_getElem? hc)).is.2.2
/-- A partial sum is no greater. -/
theorem sz_Tl {k : Nat} {f : Nat → List Nat → Int} (h : ∀ c r, sz (f c r) k) : ∀ (post pre : List Nat), sz (Tl f pre post) (k + post.length)
  | [], pre => by unfold Tl sz; exact Nat.pow_pos (by omega)
  | c :: post, pre => by
    unfold Tl
    have h1 : sz (if post.length % 2 = 1 then -(f c (pre ++ post)) else f c (pre ++ post)) (k + post.length) := by
      split
      · exact ((h c (pre ++ post)).mono (show k ≤ k + post.length by omega)).le (by rw [Int.natAbs_neg]; omega)
      · exact (h c _).mono (by omega)
    exact h1.add (sz_Tl h post (pre ++ [c]))

/-! ### the table of minors -/
/-- Of the sets below m the table holds their minors. -/
structure Tab (n : Nat) (cs : List PV) (nx m : Nat) (f : Nat → Int) : Prop where
  len : cs.length = 128
  at_ : ∀ q, q < m → ∃ i : Sid, newSid n nx i ∧ (cs.drop (q * 2)).take 2 = [.bool (decide (f q < 0)), .sl i 1 (u32s (dig (f q).natAbs))]
theorem newSid.mono {n nx nx' : Nat} {i : Sid} (h : newSid n nx i) (hn : nx ≤ nx') : newSid n nx' i := by
  rcases h with h | h
  · exact .inl h
  · exact .inr ⟨h.1, by omega⟩
theorem newSid.le {n m nx : Nat} {i : Sid} (h : newSid n nx i) (hn : m ≤ n) : newSid m nx i := by
  rcases h with h | h
  · exact .inl h
  · exact .inr ⟨by omega, h.2⟩
theorem Tab.mono {n : Nat} {cs : List PV} {nx nx' m : Nat} {f : Nat → Int} (h : Tab n cs nx m f) (hn : nx ≤ nx') : Tab n cs nx' m f :=
  ⟨h.len, fun q hq => let ⟨i, h1, h2⟩ := h.at_ q hq; ⟨i, h1.mono hn, h2⟩⟩
theorem drop_take_put {α : Type} (cs : List α) (a b : α) (s q : Nat) (hs : s * 2 + 2 ≤ cs.length) : ((cs.take (s * 2) ++ [a, b] ++ cs.drop (s * 2 + 2)).drop (q * 2)).take 2 = if q = s then [a, b] else (cs.drop (q * 2)).take 2 := by
  apply List.ext_getElem?
  intro i
  have hl : (cs.take (s * 2)).length = s * 2 := by simp; omega
  by_cases hi : i < 2
  · have hL : ((cs.take (s * 2) ++ [a, b] ++ cs.drop (s * 2 + 2)).drop (q * 2)).take 2 = ((cs.take (s * 2) ++ [a, b] ++ cs.drop (s * 2 + 2)).drop (q * 2)).take 2 := rfl
    rw [List.getElem?_take_of_lt hi, List.getElem?_drop]
    by_cases hq : q = s
    · subst hq
      rw [if_pos rfl, List.append_assoc, List.getElem?_append_right (by omega), hl, Nat.add_sub_cancel_left, List.getElem?_append_left (by simpa using hi)]
    · rw [if_neg hq, List.getElem?_take_of_lt hi, List.getElem?_drop]
      by_cases hlt : q < s
      · rw [List.append_assoc, List.getElem?_append_left (by omega), List.getElem?_take_of_lt (by omega)]
      · rw [List.getElem?_append_right (by simp; omega), List.getElem?_drop]
        congr 1
        simp; omega
  · rw [List.getElem?_eq_none (by simp; omega)]
    symm
    apply List.getElem?_eq_none
    split
    · simp; omega
    · simp; omega
theorem Tab.put {n : Nat} {cs : List PV} {nx m : Nat} {f : Nat → Int} (h : Tab n cs nx m f) (hm : m < 64) (i : Sid) (hi : newSid n nx i) (x : Int) (hx : f m = x) :
    Tab n (cs.take (m * 2) ++ [.bool (decide (x < 0)), .sl i 1 (u32s (dig x.natAbs))] ++ cs.drop (m * 2 + 2)) nx (m + 1) f := by
  have hl := h.len
  refine ⟨by simp; omega, fun q hq => ?_⟩
  rw [drop_take_put _ _ _ _ _ (by omega)]
  by_cases e : q = m
  · subst e; subst hx; exact ⟨i, hi, if_pos rfl⟩
  · obtain ⟨j, h1, h2⟩ := h.at_ q (by omega)
    exact ⟨j, h1, by rw [if_neg e]; exact h2⟩

def z73 : List PV := (List.replicate 64 [PV.bool false, .sl ⟨0, 0, 0⟩ 1 []]).flatten
theorem z73_len : z73.length = 128 := by kernel_rfl
theorem tzero73 : tzero Try.prog 73 = some (.agg z73) := by kernel_rfl
theorem cells73 : (PV.agg z73).cells.all PV.isCell = true := by kernel_rfl
theorem alloc73z {s : St} {dr : Bool} {d : Option Tmp} {K : St → Prop} : PStepC Try.prog dr d (.alloc 73) K s ↔ okDst s d ∧ K ((s.pushBox z73).put d (.box s.boxes.length 0)) := by
  rw [PS_alloc tzero73 ⟨sized_agg _, cells73⟩, cells_agg]
theorem sz_Dt6 {rs : List (Nat → Int)} {cols : List Nat} (h : ∀ r, r ∈ rs → ∀ c, sz (r c) 10) (hr : rs.length ≤ 6) (hc : cols.length ≤ 6) : sz (Dt rs cols) 97 :=
  (sz_Dt (b := 10) rs cols h hc).mono (by omega)
theorem sz_num {n w : Nat} {M : List Rw} (hM : MxOk n w 10 M) (k : Nat) : ∀ f, f ∈ (M.map Rw.f).take k → ∀ c, sz (f c) 10 := fun f hf c => by
  obtain ⟨r', hr', rfl⟩ := List.mem_map.1 (List.mem_of_mem_take hf)
  exact sz_f (hM r' hr') c
theorem shift_count {m c n : Nat} (hm : m < 2 ^ n) (hc : c ≤ n) (hn : n ≤ 6) : (bl 6 (m / 2 ^ c)).length = (bh c n m).length := by
  have e : (bl 6 (m / 2 ^ c)).map (c + ·) = bh c (c + 6) m := by
    unfold bl bh
    rw [Nat.add_sub_cancel_left, List.range'_eq_map_range, List.filter_map]
    congr 1
    refine List.filter_congr fun i _ => ?_
    simp [Nat.testBit_div_two_pow, Nat.add_comm]
  have e2 : bh c (c + 6) m = bh c n m := by
    unfold bh
    rw [Nat.add_sub_cancel_left]
    have := List.range'_append_1 (s := c) (m := n - c) (n := 6 - (n - c))
    rw [show n - c + (6 - (n - c)) = 6 by omega] at this
    rw [← this, List.filter_append]
    have : (List.range' (c + (n - c)) (6 - (n - c))).filter (fun i => m.testBit i) = [] := by
      rw [List.filter_eq_nil_iff]
      intro q hq
      rw [List.mem_range'_1] at hq
      rw [Nat.testBit_lt_two_pow (Nat.lt_of_lt_of_le hm (Nat.pow_le_pow_right (by omega) (by omega)))]
      simp
    rw [this, List.append_nil]
  rw [← e2, ← e, List.length_map]
theorem newSid_le {n n' : Nat} {i : Sid} (h : newSid n n' i) (hn : 0 < n') : i.f < n' := newSid_lt h hn
theorem get_lt {α : Type} {l : List α} {k : Nat} {x : α} (h : l[k]? = some x) : k < l.length := (List.getElem?_eq_some_iff.1 h).1
def detI (i ia : Sid) (M : List Rw) (l : List Nat) (n : Nat) (k : Nat) (s : St) : Prop :=
  ∃ (m nx : Nat) (B : List (List PV)) (b0 : PV) (b1 : PV) (cs : List PV), m + k = 2 ^ l.length ∧ 0 < m ∧ At s 86 ([b0, b1] :: cs :: B) nx [(0, .sl i 1 (M.map Rw.pv)), (1, .sl ia 1 (i64s l)), (4, .box 0 0), (5, .int .i64 l.length), (6, .box 1 0), (7, .int .i64 m)] ∧ n ≤ nx ∧ Tab n cs nx m (mn (M.map Rw.f) l l.length)
def detJ (i ia : Sid) (M : List Rw) (r : Rw) (l : List Nat) (cs : List PV) (n nx0 m : Nat) (F : Nat → List Nat → Int) (k : Nat) (s : St) : Prop :=
  ∃ (c nx ks : Nat) (B : List (List PV)) (b0 : PV) (b1 : PV) (i1 : Sid) (S : Int), c + k = l.length ∧ At s 86 ([b0, b1] :: cs :: B) nx [(0, .sl i 1 (M.map Rw.pv)), (1, .sl ia 1 (i64s l)), (4, .box 0 0), (5, .int .i64 l.length), (6, .box 1 0), (7, .int .i64 m), (8, r.pv), (9, .box (ks + 2) 0), (31, .int .i64 l.length), (32, .int .i64 c)] ∧
    nx0 ≤ nx ∧ B[ks]? = some [.bool (decide (S < 0)), .sl i1 1 (u32s (dig S.natAbs))] ∧ newSid n nx i1 ∧ sz S (110 + c) ∧ S + Tl F (bl c m) (bh c l.length m) = mn (M.map Rw.f) l l.length m
set_option maxHeartbeats 1000000 in
theorem det_call {n : Nat} (hn : 0 < n) (i ia : Sid) (M : List Rw) (l : List Nat) (w : Nat) (hM : MxOk n w 10 M) (hl : l.length ≤ 6) (hMl : M.length = l.length) (hc : ∀ c, c ∈ l → c < w) {Q : PV → Nat → List Nat → Prop}
    (hQ : ∀ (i : Sid) (n' : Nat), n ≤ n' → newSid n n' i → Q (W (decide (Dt (M.map Rw.f) l < 0)) i (dig (Dt (M.map Rw.f) l).natAbs)) n' []) : PCall Try.prog 30 [.sl i 1 (M.map Rw.pv), .sl ia 1 (i64s l)] n Q := by
  have hf := mn_full (rs := M.map Rw.f) (cols := l) (n := l.length) (by simpa using hMl) rfl
  obtain ⟨N, hN⟩ : ∃ N, N = 2 ^ l.length := ⟨_, rfl⟩
  have hN1 : 1 ≤ N := by rw [hN]; exact Nat.one_le_two_pow
  have hN2 : N ≤ 64 := by rw [hN]; exact Nat.pow_le_pow_right (by omega) hl
  have hshl : binPV Try.prog .shl 3 (.int .i64 1) (.int .i64 (l.length : Int)) = some (.int .i64 (N : Nat)) := by rw [hN]; exact shl_one_i64 (by omega)
  refine of30 hn ?_
  simp (disch := omega) [-alloc73, alloc73z, c30]
  refine CallK.of (by simp) (Of_call hn 1 (by omega) (by omega) fun i1 n1 g1 d1 => ?_)
  simp (disch := omega) [z73_len, hMl]
  refine GO_loopN (detI i ia M l n) (N - 1) ⟨1, n1, [], .bool false, .sl ⟨0, 0, 0⟩ 1 [], _, by omega, by omega, by simp [At, hMl], g1, Tab.put (cs := z73) (m := 0) ⟨z73_len, fun q hq => by omega⟩ (by omega) i1 d1 1 (mn_zero _ _ _)⟩ ?_
  rintro k s ⟨m, nx, B, b0, b1, cs, hm, hm0, ⟨e1, e2, e3, e4, e5⟩, hnx, hT⟩
  simp at e5
  obtain ⟨e5, e6, e7, e8, e9, e10⟩ := e5
  by_cases hk : m < N
  · have hbn := bl_ne (n := l.length) (by omega) (show m ≠ 0 by omega)
    have hbl := bl_le l.length m
    obtain ⟨p, hp⟩ : ∃ p, (bl l.length m).length = p + 1 := ⟨_, (Nat.succ_pred_eq_of_pos hbn).symm⟩
    have hb6 : bl 6 m = bl l.length m := by
      rw [bl_bh (show l.length ≤ 6 from hl), show bh l.length 6 m = [] from ?_, List.append_nil]
      unfold bh
      rw [List.filter_eq_nil_iff]
      intro q hq
      rw [List.mem_range'_1] at hq
      rw [Nat.testBit_lt_two_pow (Nat.lt_of_lt_of_le (show m < 2 ^ l.length by omega) (Nat.pow_le_pow_right (by omega) hq.1))]
      simp
    simp (disch := omega) [-binPV_shl, hshl, c30L1, e1, e2, e3, e4, e5, e6, e7, e8, e9, e10, hk]
    refine CallK.of (by simp) (OnesCount_call (by omega) m (by omega) ?_)
    rw [hb6, hp]
    have hpM : p < M.length := by omega
    have hrM : M[p]? = some M[p] := List.getElem?_eq_getElem hpM
    obtain ⟨r, hr0⟩ : ∃ r, r = M[p] := ⟨_, rfl⟩
    have hrok : RwOk n w 10 r := hM r (by rw [hr0]; exact List.getElem_mem _)
    have hrf : (M.map Rw.f)[p]? = some r.f := by simp [hrM, hr0]
    have hsum := mn_sum (cols := l) hp hrf
    obtain ⟨F, hF⟩ : ∃ F, F = mnF (M.map Rw.f) l p r.f := ⟨_, rfl⟩
    rw [← hF] at hsum
    have hsz : ∀ q, sz (mn (M.map Rw.f) l l.length q) 97 := fun q => by
      have := bl_le l.length q
      exact sz_Dt6 (sz_num hM _) (by simp; omega) (by simp; omega)
    have hszF : ∀ c rest, rest.length ≤ 6 → sz (F c rest) 107 := fun c rest hrl => by
      rw [hF]
      exact (sz_f hrok _).mul (sz_Dt6 (sz_num hM _) (by simp; omega) (by simpa using hrl))
    simp (disch := omega) [e1, e2, e3, e4, e5, e6, e7, e8, e9, e10, hpM, ← hr0]
    refine GO_loopN (detJ i ia M r l cs n nx m F) l.length ⟨0, nx, B.length, B ++ [[PV.bool false, PV.sl ⟨0, 0, 0⟩ 1 []]], b0, b1, ⟨0, 0, 0⟩, 0, by omega, by simp [At, e1, e2, e3, e4, e5, e6, e7, e8, e9, e10], Nat.le_refl _, by simp [dig_zero], .inl rfl, Nat.pow_pos (by omega), by
      rw [hsum, bh_zero, bl_none]; simp⟩ ?_
    rintro k2 s2 ⟨c, nx2, ks, B2, c0, c1, i2, S, hck, ⟨f1, f2, f3, f4, f5⟩, hnx2, hB, hi2, hSs, hS⟩
    simp at f5
    obtain ⟨f5, f6, f7, f8, f9, f10, f11, f12, f13, f14⟩ := f5
    obtain ⟨hks, hBg⟩ := List.getElem?_eq_some_iff.1 hB
    by_cases hk2 : c < l.length
    · obtain ⟨q, hq1, hq2⟩ := bit_get (P := Try.prog) (P2 := Try.prog) (t := 3) (t2 := 3) (a := m) (i := c) (by omega) (by omega)
      by_cases hb : m.testBit c = true
      · simp only [hb] at hq2
        obtain ⟨x, hx0⟩ : ∃ x, x = l[c] := ⟨_, rfl⟩
        have hxw : x < r.es.length := by rw [hrok.w]; exact hc x (by rw [hx0]; exact List.getElem_mem _)
        obtain ⟨e, he0⟩ : ∃ e, e = r.es[x] := ⟨_, rfl⟩
        have heok : EOk n 10 e := hrok.e e (by rw [he0]; exact List.getElem_mem _)
        obtain ⟨en, el, esz⟩ := heok.is
        have hrx : r.f (l.getD c 0) = e.num := by
          have : l.getD c 0 = x := by simp [List.getD, hk2, hx0]
          rw [this]; simp [Rw.f, hxw, he0]
        obtain ⟨P, hP⟩ : ∃ P, P = 2 ^ c := ⟨_, rfl⟩
        have hPl : P ≤ 64 := by rw [hP]; exact Nat.pow_le_pow_right (n := 2) (by omega) (show c ≤ 6 by omega)
        have hP1 : binPV Try.prog .shl 3 (.int .i64 1) (.int .i64 (c : Int)) = some (.int .i64 (P : Nat)) := by rw [hP]; exact shl_one_i64 (by omega)
        obtain ⟨t, ht1, ht2, ht3⟩ := andNot_i64 (P := Try.prog) (t := 3) (a := m) (b := P) (by omega) (by omega)
        have ht3 : ∀ i, t.testBit i = (m.testBit i && !decide (i = c)) := fun i => by
          rw [ht3 i, hP, Nat.testBit_two_pow]
          by_cases h : c = i
          · simp [h]
          · have : ¬ i = c := fun e => h e.symm
            simp [h, this]
        have htm : t < m := by
          rcases Nat.lt_or_ge t m with h | h
          · exact h
          · have := ht3 c
            rw [Nat.le_antisymm ht2 h, hb] at this
            simp at this
        obtain ⟨it, hit, hct⟩ := hT.at_ t htm
        have hcl := hT.len
        have hFv := mn_less (rs := M.map Rw.f) (cols := l) (r := r.f) hp hk2 hb ht3
        rw [← hF, hrx] at hFv
        obtain ⟨y, hy⟩ : ∃ y, y = mn (M.map Rw.f) l l.length t := ⟨_, rfl⟩
        have hysz : sz y 97 := by rw [hy]; exact hsz t
        rw [← hy] at hFv hct
        have hif : it.f < nx2 := by rcases hit with rfl | h; exact (by show 0 < nx2; omega); exact Nat.lt_of_lt_of_le h.2 hnx2
        have hef := heok.f
        simp (disch := omega) [-binPV_shr, -binPV_and, -binPV_shl, -binPV_andNot, hq1, hq2, hP1, ht1, c30L0, f1, f2, f3, f4, f5, f6, f7, f8, f9, f10, f11, f12, f13, f14, hk2, ← hx0, hxw, ← he0, show t < 64 by omega, hcl, show t * 2 + 2 ≤ 128 by omega, hct, en, el]
        refine CallK.of (by simp) (Mul_Z (by omega) e.num y (e.num * y) e.i it (by omega) hif 10 97 esz hysz (by omega) rfl fun i3 n3 g3 d3 => ?_)
        obtain ⟨z, hz⟩ : ∃ z, z = e.num * y := ⟨_, rfl⟩
        have hzsz : sz z 107 := by rw [hz]; exact esz.mul hysz
        rw [← hz] at hFv ⊢
        obtain ⟨q2, hq20⟩ : ∃ q2, q2 = m / 2 ^ (c + 1) := ⟨_, rfl⟩
        have hq2l : q2 < 64 := by rw [hq20]; exact Nat.lt_of_le_of_lt (Nat.div_le_self _ _) (by omega)
        have hs2 : binPV Try.prog .shr 3 (.int .i64 (m : Int)) (.int .i64 ((c : Int) + 1)) = some (.int .i64 (q2 : Nat)) := by
          rw [hq20]; exact shr_nat (b := c + 1) (by simp; omega)
        have hsc := shift_count (m := m) (c := c + 1) (n := l.length) (by omega) (by omega) hl
        rw [← hq20] at hsc
        simp (disch := omega) [-binPV_shr, hs2, g3, f1, f2, f3, f4, f5, f6, f7, f8, f9, f10, f11, f12, f13, f14, sepP]
        refine CallK.of (by simp) (OnesCount_call (by omega) q2 (by omega) ?_)
        rw [hsc]
        obtain ⟨L, hL⟩ : ∃ L, L = (bh (c + 1) l.length m).length := ⟨_, rfl⟩
        obtain ⟨d, hd⟩ : ∃ d, d = L % 2 := ⟨_, rfl⟩
        rw [← hL]
        have hrem : ((L : Int).tmod 2) = (d : Int) := by rw [hd]; exact (Int.ofNat_tmod L 2).symm
        have hTl := bh_step hk2 m
        rw [if_pos hb] at hTl
        rw [hTl] at hS
        unfold Tl at hS
        rw [hFv, ← hL, ← hd, show bl c m ++ [c] = bl (c + 1) m from by rw [bl_succ, if_pos hb]] at hS
        have hzs : sz z (110 + c) := hzsz.mono (by omega)
        have hd2 : d < 2 := by omega
        by_cases hd1 : d = 1
        · simp (disch := omega) [hrem, hd1, f1, f2, f3, f4, f5, f6, f7, f8, f9, f10, f11, f12, f13, f14, hks, hBg]
          refine CallK.of (by simp) (Sub_Z (by omega) S z (S - z) i2 i3 (110 + c) hSs hzs (by omega) rfl fun i4 n4 g4 d4 => ?_)
          simp (disch := omega) [g3, g4, f1, f2, f3, f4, f5, f6, f7, f8, f9, f10, f11, f12, f13, f14, hks, hBg]
          have hset := ap_set_lt B2 [[PV.bool (decide (z < 0)), PV.sl i3 1 (u32s (dig z.natAbs))]] ks [PV.bool (decide (S - z < 0)), PV.sl i4 1 (u32s (dig (S - z).natAbs))] hks
          refine ⟨k2 - 1, by omega, c + 1, n4, ks, B2.set ks [PV.bool (decide (S - z < 0)), PV.sl i4 1 (u32s (dig (S - z).natAbs))] ++ [[PV.bool (decide (z < 0)), PV.sl i3 1 (u32s (dig z.natAbs))]], c0, c1, i4, S - z, by omega, by simp [At, hset, f1, f2, f3, f4, f5, f6, f7, f8, f9, f10, f11, f12, f13, f14], by omega, by simp [hks], d4.le (by omega), hSs.sub hzs, ?_⟩
          rw [if_pos hd1] at hS
          omega
        · have hd0 : d = 0 := by omega
          simp (disch := omega) [hrem, hd0, f1, f2, f3, f4, f5, f6, f7, f8, f9, f10, f11, f12, f13, f14, hks, hBg]
          refine CallK.of (by simp) (Add_Z (by omega) S z (S + z) i2 i3 (110 + c) hSs hzs (by omega) rfl fun i4 n4 g4 d4 => ?_)
          simp (disch := omega) [g3, g4, f1, f2, f3, f4, f5, f6, f7, f8, f9, f10, f11, f12, f13, f14, hks, hBg]
          have hset := ap_set_lt B2 [[PV.bool (decide (z < 0)), PV.sl i3 1 (u32s (dig z.natAbs))]] ks [PV.bool (decide (S + z < 0)), PV.sl i4 1 (u32s (dig (S + z).natAbs))] hks
          refine ⟨k2 - 1, by omega, c + 1, n4, ks, B2.set ks [PV.bool (decide (S + z < 0)), PV.sl i4 1 (u32s (dig (S + z).natAbs))] ++ [[PV.bool (decide (z < 0)), PV.sl i3 1 (u32s (dig z.natAbs))]], c0, c1, i4, S + z, by omega, by simp [At, hset, f1, f2, f3, f4, f5, f6, f7, f8, f9, f10, f11, f12, f13, f14], by omega, by simp [hks], d4.le (by omega), hSs.add hzs, ?_⟩
          rw [if_neg hd1] at hS
          omega
      · simp only [hb] at hq2
        simp (disch := omega) [-binPV_shr, -binPV_and, hq1, hq2, c30L0, f1, f2, f3, f4, f5, f6, f7, f8, f9, f10, f11, f12, f13, f14, hk2]
        refine ⟨k2 - 1, by omega, c + 1, nx2, ks, B2, c0, c1, i2, S, by omega, by simp [At, f1, f2, f3, f4, f5, f6, f7, f8, f9, f10, f11, f12, f13, f14], hnx2, hB, hi2, hSs.mono (by omega), ?_⟩
        rw [bl_succ, if_neg hb, List.append_nil, ← hS, bh_step hk2, if_neg hb]
    · have hcl : c = l.length := by omega
      subst hcl
      have hm64 : m < 64 := by omega
      have hcl := hT.len
      have hSm : S = mn (M.map Rw.f) l l.length m := by rw [← hS, bh_nil]; simp [Tl]
      simp (disch := omega) [c30L0, c30R0, c30R1, f1, f2, f3, f4, f5, f6, f7, f8, f9, f10, f11, f12, f13, f14, hk2, hBg, hm64, hcl, show m * 2 + 2 ≤ 128 by omega]
      refine ⟨k - 1, by omega, m + 1, nx2, B2, c0, c1, _, by omega, by omega, ?_, by omega, (hT.mono (nx' := nx2) hnx2).put hm64 i2 hi2 S hSm.symm⟩
      simp [At, f1, f2, f3, f4, f5, f6, f7, f8, f9, f10, f11, f12, f13, f14]
  · have hmN : m = N := by omega
    subst hmN
    have hcl := hT.len
    obtain ⟨i', hi', hcs⟩ := hT.at_ (m - 1) (by omega)
    have hfm : mn (M.map Rw.f) l l.length (m - 1) = Dt (M.map Rw.f) l := by rw [hN]; exact hf
    rw [hfm] at hcs
    simpa (disch := omega) [-binPV_shl, hshl, c30L1, c30R2, e1, e2, e3, e4, e5, e6, e7, e8, e9, e10, show m - 1 < 64 by omega, hcl, show (m - 1) * 2 + 2 ≤ 128 by omega, hcs, hnx] using hQ i' nx hnx hi'
end Go.Proofs.Ytcdkgeeookcoeaa
