/- The laws of layer 2, by value: checks, products. -/
import Derived.Test.YtaankihkejodgaaDoorDlA
set_option linter.unusedVariables false
set_option linter.unusedSimpArgs false
namespace Go.Proofs.YtaankihkejodgaaDoor
open Go.Proofs

theorem rightD_E {neg : Bool} {l : List Nat} {e : Int} (h : rightD neg l e = true) : -16384 ≤ e ∧ e ≤ 16384 := by
  unfold rightD at h
  rw [Bool.and_eq_true] at h
  by_cases hl : l = []
  · rw [if_pos hl] at h; simp at h; omega
  · rw [if_neg hl] at h; simp at h; exact h.2.2
theorem DyadicChecks_call {n : Nat} (hn : 0 < n) (na : Bool) (ia : Sid) (hia : ia.f < n) (a : List Nat) (e : Int) (ha : a.length < 35184372088000) (la : Lim a) {Q : PV → Nat → List Nat → Prop}
    (hQ : ∀ n' D, n ≤ n' → (∀ x, x ∈ D → n ≤ x) → Q (.bool true) n' D) : PCall Tryd.prog 4 [D na ia a e] n Q := by
  have hQ : ∀ n', n ≤ n' → Q (.bool true) n' [] := fun n' h => hQ n' [] h (by simp)
  refine of4 hn ?_
  simp (disch := omega) [c4]
  refine CallK.of (by simp) (CheckD_call hn na ia a e (by omega) la ?_)
  cases hr : rightD na a e
  · simp (disch := omega) []
    refine CallK.of (by simp) (RightD_call hn na ia a e (by omega) la ?_)
    simp (disch := omega) [hr]
    refine CallK.of (by simp) (CheckD_call hn na ia a e (by omega) la ?_)
    simp (disch := omega) [hr]
    refine CallK.of (by simp) (CheckD_call hn na ia a e (by omega) la ?_)
    simp (disch := omega) [hr]
    refine CallK.of (by simp) (RightD_call hn na ia a e (by omega) la ?_)
    simp (disch := omega) [hr]
    refine CallK.of (by simp) (awakeD_call (by omega) fun n2 k2 => ?_)
    simpa [k2] using hQ n2 k2
  · have he := rightD_E hr
    simp (disch := omega) []
    refine CallK.of (by simp) (RightD_call hn na ia a e (by omega) la ?_)
    simp (disch := omega) [hr]
    refine CallK.of (by simp) (CheckD_call hn na ia a e (by omega) la ?_)
    simp (disch := omega) [hr]
    refine CallK.of (by simp) (RightD_call hn na ia a e (by omega) la ?_)
    simp (disch := omega) [hr]
    refine CallK.of (by simp) (TopD_call hn na ia a e (by omega) la (by omega) ?_)
    simp (disch := omega) [hr]
    refine CallK.of (by simp) (RefTopD_call hn na ia a e (by omega) la (by omega) ?_)
    simp (disch := omega) [hr]
    refine CallK.of (by simp) (awakeD_call (by omega) fun n2 k2 => ?_)
    simpa [k2] using hQ n2 k2

theorem wrapE {z e : Int} (h : sz z 512) (he : -100000 ≤ e ∧ e ≤ 100000) : (if z = 0 then 0 else IntKind.i64.wrap (e + tz z.natAbs)) = (if z = 0 then 0 else e + tz z.natAbs) := by
  by_cases h0 : z = 0
  · rw [if_pos h0, if_pos h0]
  · rw [if_neg h0, if_neg h0]
    have := tz_sz h0 h
    exact wrap_i64_is rfl (by omega)
/-- What an answer is: the number z times 2 to the e, or why there is none. -/
def ansD (g z e : Int) (an : Bool) (al : List Nat) (ae err : Int) : Prop :=
  if g = 0 then (if dyOk z e then an = decide (dyM z < 0) ∧ al = dig (dyM z).natAbs ∧ ae = dyE z e ∧ err = 0 else an = false ∧ al = [] ∧ ae = 0 ∧ err = 2)
  else an = false ∧ al = [] ∧ ae = 0 ∧ err = g
theorem ansD_len {g z e : Int} {an : Bool} {al : List Nat} {ae err : Int} (h : ansD g z e an al ae err) (hz : g = 0 → sz z 512) : al.length ≤ 512 := by
  unfold ansD at h
  by_cases hg : g = 0
  · rw [if_pos hg] at h
    split at h
    · rw [h.2.1]; exact (sz_dyM (hz hg)).len
    · rw [h.2.1]; simp
  · rw [if_neg hg] at h; rw [h.2.1]; simp
theorem toldD_any {n : Nat} (hn : 0 < n) {g z e : Int} {an : Bool} {al : List Nat} {ae err : Int} (h : ansD g z e an al ae err) (hz : g = 0 → sz z 512) (nw : Bool) (w : List Nat) (ew : Int) (ia iw : Sid) (hw : w.length < 35184372088800) (lw : Lim w)
    (hwant : g = 0 → nw = decide (dyM z < 0) ∧ w = dig (dyM z).natAbs ∧ ew = (if z = 0 then 0 else e + tz z.natAbs)) {Q : PV → Nat → List Nat → Prop}
    (hQ : Q (.bool true) n []) : PCall Tryd.prog 12 [D an ia al ae, .int .i64 err, D nw iw w ew, .int .i64 g] n Q := by
  have hl := ansD_len h hz
  refine toldD_call hn an nw ia iw al w ae ew err g (by omega) hw lw ?_
  have key : toldD an al ae err nw w ew g = true := by
    unfold ansD at h
    unfold toldD
    by_cases hg : g = 0
    · obtain ⟨rfl, rfl, rfl⟩ := hwant hg
      have hr := dyOk_right (e := e) (hz hg)
      rw [if_pos hg] at h
      cases hok : dyOk z e
      · rw [hok] at h hr
        simp at h
        obtain ⟨rfl, rfl, rfl, rfl⟩ := h
        simp [hg, hr]
      · rw [hok] at h hr
        simp only [if_true] at h
        obtain ⟨rfl, rfl, rfl, rfl⟩ := h
        rw [if_pos ⟨hg, hr⟩]
        simp [dyE]
    · rw [if_neg hg] at h
      obtain ⟨rfl, rfl, rfl, rfl⟩ := h
      simp [hg]
  rw [key]; exact hQ

theorem sz_prod {na nb : Bool} {a b : List Nat} (la : Lim a) (lb : Lim b) (ha : a.length ≤ 30) (hb : b.length ≤ 30) : sz (numW na a * numW nb b) 60 := by
  have h1 := val_lt la
  have h2 := val_lt lb
  refine sz.mono (k := a.length + b.length) ?_ (by omega)
  unfold sz; rw [numW_mul, Nat.pow_add]; exact Nat.mul_lt_mul'' h1 h2
theorem MulD_any {n : Nat} (hn : 0 < n) (na nb : Bool) (ia ib : Sid) (hia : ia.f < n) (hib : ib.f < n) (a b : List Nat) (e f : Int) (ha : a.length ≤ 30) (hb : b.length ≤ 30) (la : Lim a) (lb : Lim b) {Q : PV → Nat → List Nat → Prop}
    (hQ : ∀ (i' : Sid) (n' : Nat) (an : Bool) (al : List Nat) (ae err : Int), n ≤ n' → newSid n n' i' → ansD (if rightD na a e && rightD nb b f then 0 else 1) (numW na a * numW nb b) (e + f) an al ae err → Q (.tup [D an i' al ae, .int .i64 err]) n' []) : PCall Tryd.prog 19 [D na ia a e, D nb ib b f] n Q := by
  cases hr : rightD na a e && rightD nb b f
  · exact MulD_bad hn na nb ia ib a b e f (by omega) (by omega) la lb hr (hQ _ _ _ _ _ _ (by omega) (.inl rfl) (by simp [ansD, hr]))
  · have hr' := hr
    rw [Bool.and_eq_true] at hr
    obtain ⟨x, rfl, rfl, sx, he1, he2, _⟩ := rightD_Z hr.1 la
    obtain ⟨y, rfl, rfl, sy, hf1, hf2, _⟩ := rightD_Z hr.2 lb
    have sx' : sz x 30 := (sz_dig x).mono ha
    have sy' : sz y 30 := (sz_dig y).mono hb
    refine MulD_Z hn x y (x * y) e f ia ib hia hib 30 30 sx' sy' (by omega) rfl hr.1 hr.2 (by omega) (by omega) fun i' n' h1 h2 => ?_
    have := fun j hj an al ae err => hQ j n' an al ae err h1 hj
    rw [hr', numW_dig, numW_dig] at this
    cases hok : dyOk (x * y) (e + f)
    · exact this ⟨0, 0, 0⟩ (.inl rfl) false [] 0 2 (by simp [ansD, hok])
    · exact this i' h2 (decide (dyM (x * y) < 0)) (dig (dyM (x * y)).natAbs) (dyE (x * y) (e + f)) 0 (by simp [ansD, hok])
/-- Why a number is not scaled. -/
def scG (na : Bool) (a : List Nat) (e c : Int) : Int := if rightD na a e then (if c < -32768 ∨ 32768 < c then 2 else 0) else 1
theorem ScaleD_any {n : Nat} (hn : 0 < n) (na : Bool) (ia : Sid) (a : List Nat) (e c : Int) (ha : a.length ≤ 30) (la : Lim a) {Q : PV → Nat → List Nat → Prop}
    (hQ : ∀ (i' : Sid) (n' : Nat) (an : Bool) (al : List Nat) (ae err : Int), n ≤ n' → newSid n n' i' → ansD (scG na a e c) (numW na a) (e + c) an al ae err → Q (.tup [D an i' al ae, .int .i64 err]) n' []) : PCall Tryd.prog 20 [D na ia a e, .int .i64 c] n Q := by
  unfold scG at hQ
  cases hr : rightD na a e
  · exact ScaleD_bad hn na ia a e c (by omega) la hr (hQ _ _ _ _ _ _ (by omega) (.inl rfl) (by simp [ansD, hr]))
  · by_cases hc : c < -32768 ∨ 32768 < c
    · exact ScaleD_far hn na ia a e c (by omega) la hr hc (hQ _ _ _ _ _ _ (by omega) (.inl rfl) (by rw [hr, if_pos rfl, if_pos hc]; simp [ansD]))
    · have hr' := hr
      obtain ⟨x, rfl, rfl, sx, he1, he2, _⟩ := rightD_Z hr la
      refine ScaleD_Z hn x e c ia sx hr' (by omega) (by omega) fun i' n' h1 h2 => ?_
      have := fun j hj an al ae err => hQ j n' an al ae err h1 hj
      rw [hr', if_pos rfl, if_neg hc, numW_dig] at this
      cases hok : dyOk x (e + c)
      · exact this ⟨0, 0, 0⟩ (.inl rfl) false [] 0 2 (by simp [ansD, hok])
      · exact this i' h2 (decide (dyM x < 0)) (dig (dyM x).natAbs) (dyE x (e + c)) 0 (by simp [ansD, hok])

theorem DyadicProducts_call {n : Nat} (hn : 0 < n) (na nb : Bool) (ia ib : Sid) (hia : ia.f < n) (hib : ib.f < n) (a b : List Nat) (e f c : Int) (ha : a.length < 35184372088000) (hb : b.length < 35184372088000) (la : Lim a) (lb : Lim b) {Q : PV → Nat → List Nat → Prop}
    (hQ : ∀ n' D, n ≤ n' → (∀ x, x ∈ D → n ≤ x) → Q (.bool true) n' D) : PCall Tryd.prog 5 [D na ia a e, D nb ib b f, .int .i64 c] n Q := by
  have hQ : ∀ n', n ≤ n' → Q (.bool true) n' [] := fun n' h => hQ n' [] h (by simp)
  refine of5 hn ?_
  simp (disch := omega) [c5]
  refine CallK.of (by simp) (lightD_call hn na nb ia ib a b e f (by omega) (by omega) ?_)
  by_cases hl : a.length ≤ 30 ∧ b.length ≤ 30
  · obtain ⟨hl1, hl2⟩ := hl
    simp (disch := omega) [hl1, hl2]
    have szp := sz_prod (na := na) (nb := nb) la lb hl1 hl2
    have sza : sz (numW na a) 30 := by unfold sz; rw [numW_abs]; exact Nat.lt_of_lt_of_le (val_lt la) (Nat.pow_le_pow_right (by omega) hl1)
    obtain ⟨z, hz⟩ : ∃ z, z = numW na a * numW nb b := ⟨_, rfl⟩
    obtain ⟨g, hg⟩ : ∃ g : Int, g = if rightD na a e && rightD nb b f then 0 else 1 := ⟨_, rfl⟩
    obtain ⟨r1, hr1⟩ : ∃ r, r = rightD na a e := ⟨_, rfl⟩
    obtain ⟨r2, hr2⟩ : ∃ r, r = rightD nb b f := ⟨_, rfl⟩
    rw [← hz] at szp
    refine CallK.of (by simp) (MulD_any hn na nb ia ib hia hib a b e f hl1 hl2 la lb fun i1 n1 pn pl pe pr g1 d1 hp => ?_)
    rw [← hg, ← hz] at hp
    simp (disch := omega) [g1]
    refine CallK.of (by simp) (ScaleD_any (by omega) na ia a e c hl1 la fun i2 n2 sn sl se sr g2 d2 hs => ?_)
    simp (disch := omega) [g1, g2]
    refine CallK.of (by simp) (RefMulD_call (by omega) na nb ia ib a b e f (by omega) (by omega) la lb z hz.symm fun i3 n3 g3 => ?_)
    simp (disch := omega) [-wrap_i64_at, g1, g2, g3]
    refine CallK.of (by simp) (formD_call (by omega) na nb ia ib a b e f (by omega) (by omega) la lb ?_)
    rw [← hg]
    simp (disch := omega) [-wrap_i64_at, g1, g2, g3]
    have hzM := (sz_dyM szp).len
    have hE : g = 0 → (if z = 0 then 0 else IntKind.i64.wrap (IntKind.i64.wrap (e + f) + tz z.natAbs)) = (if z = 0 then 0 else e + f + tz z.natAbs) := by
      intro h
      rw [hg] at h
      have hrr : (rightD na a e && rightD nb b f) = true := by
        cases hh : rightD na a e && rightD nb b f
        · rw [hh] at h; simp at h
        · rfl
      rw [Bool.and_eq_true] at hrr
      have he := rightD_E hrr.1
      have hf := rightD_E hrr.2
      rw [wrap_i64_is (x := e + f) rfl (by omega)]
      exact wrapE (szp.mono (by omega)) (by omega)
    refine CallK.of (by simp) (toldD_any (by omega) hp (fun _ => szp.mono (by omega)) _ _ _ i1 i3 (by omega) (Lim.dig _) (fun h => ⟨rfl, rfl, hE h⟩) ?_)
    simp (disch := omega) [-wrap_i64_at, g1, g2, g3]
    refine CallK.of (by simp) (formD_call (by omega) na na ia ia a a e e (by omega) (by omega) la la ?_)
    rw [Bool.and_self]
    unfold scG at hs
    cases hra : rightD na a e
    · rw [hra] at hs
      simp (disch := omega) [-wrap_i64_at, g1, g2, g3]
      refine CallK.of (by simp) (toldD_any (by omega) hs (fun h => by simp at h) false [] 0 i2 ⟨0, 0, 0⟩ (by simp) .nil (fun h => by simp at h) ?_)
      simp (disch := omega) [-wrap_i64_at, g1, g2, g3]
      refine CallK.of (by simp) (awakeD_call (by omega) fun n4 k4 => ?_)
      simpa [show n ≤ n4 by omega] using hQ n4 (by omega)
    · have he := rightD_E hra
      rw [hra, if_pos rfl] at hs
      by_cases c1 : c < -32768
      · rw [if_pos (.inl c1)] at hs
        simp (disch := omega) [-wrap_i64_at, g1, g2, g3, c1]
        refine CallK.of (by simp) (toldD_any (by omega) hs (fun h => by simp at h) false [] 0 i2 ⟨0, 0, 0⟩ (by simp) .nil (fun h => by simp at h) ?_)
        simp (disch := omega) [-wrap_i64_at, g1, g2, g3]
        refine CallK.of (by simp) (awakeD_call (by omega) fun n4 k4 => ?_)
        simpa [show n ≤ n4 by omega] using hQ n4 (by omega)
      · by_cases c2 : 32768 < c
        · rw [if_pos (.inr c2)] at hs
          simp (disch := omega) [-wrap_i64_at, g1, g2, g3, c1, c2]
          refine CallK.of (by simp) (toldD_any (by omega) hs (fun h => by simp at h) false [] 0 i2 ⟨0, 0, 0⟩ (by simp) .nil (fun h => by simp at h) ?_)
          simp (disch := omega) [-wrap_i64_at, g1, g2, g3]
          refine CallK.of (by simp) (awakeD_call (by omega) fun n4 k4 => ?_)
          simpa [show n ≤ n4 by omega] using hQ n4 (by omega)
        · rw [if_neg (by omega)] at hs
          simp (disch := omega) [-wrap_i64_at, g1, g2, g3, c1, c2]
          obtain ⟨x, hx1, hx2, sx, _⟩ := rightD_Z hra la
          have hnum : numW na a = x := by rw [hx1, hx2, numW_dig]
          rw [hnum] at hs
          subst hx1; subst hx2
          refine CallK.of (by simp) (RefScaleD_call (by omega) x e c ia (by omega) sx (by omega) (by omega) fun i5 n5 g5 => ?_)
          simp (disch := omega) [-wrap_i64_at, g1, g2, g3, g5]
          have hxM := (sz_dyM sx).len
          refine CallK.of (by simp) (toldD_any (by omega) hs (fun _ => sx) _ _ _ i2 i5 (by omega) (Lim.dig _) (fun _ => ⟨rfl, rfl, wrapE sx (by omega)⟩) ?_)
          simp (disch := omega) [-wrap_i64_at, g1, g2, g3, g5]
          refine CallK.of (by simp) (awakeD_call (by omega) fun n4 k4 => ?_)
          simpa [show n ≤ n4 by omega] using hQ n4 (by omega)
  · have hl3 : (decide (a.length ≤ 30) && decide (b.length ≤ 30)) = false := by simp; omega
    rw [hl3]
    simp (disch := omega) []
    refine CallK.of (by simp) (awakeD_call (by omega) fun n2 k2 => ?_)
    simpa [k2] using hQ n2 k2
end Go.Proofs.YtaankihkejodgaaDoor
