/- The laws of layer 2, by value: what they share; numbers made, checks. -/
import Derived.Test.YtaankihkejodgaaDoorDyD
set_option linter.unusedVariables false
set_option linter.unusedSimpArgs false
namespace Go.Proofs.YtaankihkejodgaaDoor
open Go.Proofs

def toldD (na : Bool) (a : List Nat) (ea e : Int) (nw : Bool) (w : List Nat) (ew f : Int) : Bool :=
  if f = 0 ∧ rightD nw w ew = true then decide (e = 0) && (decide (ea = ew) && (na == nw && decide (a = w)))
  else decide (e = (if f = 0 then 2 else f)) && (decide (ea = 0) && (!na && decide (a = [])))
theorem toldD_call {n : Nat} (hn : 0 < n) (na nw : Bool) (ia iw : Sid) (a w : List Nat) (ea ew e f : Int) (ha : a.length < 35184372088800) (hw : w.length < 35184372088800) (lw : Lim w) {Q : PV → Nat → List Nat → Prop}
    (hQ : Q (.bool (toldD na a ea e nw w ew f)) n []) : PCall Tryd.prog 12 [D na ia a ea, .int .i64 e, D nw iw w ew, .int .i64 f] n Q := by
  unfold toldD at hQ
  refine of12 hn ?_
  by_cases hf : f = 0
  · subst hf
    simp (disch := omega) [c12]
    refine CallK.of (by simp) (RightD_call hn nw iw w ew hw lw ?_)
    cases hr : rightD nw w ew
    · simp [hr] at hQ
      by_cases he : e = 2
      · subst he
        simp at hQ
        simp (disch := omega) [hr]
        refine CallK.of (by simp) (SameD_call hn na false ia ⟨0, 0, 0⟩ a [] ea 0 ha ?_)
        simpa using hQ
      · have he' : (e == 2) = false := by simpa using he
        simp [he] at hQ
        simpa (disch := omega) [hr, he'] using hQ
    · simp [hr] at hQ
      by_cases he : e = 0
      · subst he
        simp at hQ
        simp (disch := omega) [hr]
        refine CallK.of (by simp) (SameD_call hn na nw ia iw a w ea ew ha ?_)
        simpa using hQ
      · have he' : (e == 0) = false := by simpa using he
        simp [he] at hQ
        simpa (disch := omega) [hr, he'] using hQ
  · simp [hf] at hQ
    have hf' : (f == 0) = false := by simpa using hf
    have hf'' : (f != 0) = true := by simpa using hf
    by_cases he : e = f
    · subst he
      simp at hQ
      simp (disch := omega) [c12, hf', hf'']
      refine CallK.of (by simp) (SameD_call hn na false ia ⟨0, 0, 0⟩ a [] ea 0 ha ?_)
      simpa using hQ
    · simp [he] at hQ
      have he' : (e == f) = false := by simpa using he
      simpa (disch := omega) [c12, hf', hf'', he'] using hQ
theorem toldD_err {n : Nat} (hn : 0 < n) (nw : Bool) (iw : Sid) (w : List Nat) (ew f : Int) (hf : f ≠ 0) (hw : w.length < 35184372088800) (lw : Lim w) {Q : PV → Nat → List Nat → Prop}
    (hQ : Q (.bool true) n []) : PCall Tryd.prog 12 [D false ⟨0, 0, 0⟩ [] 0, .int .i64 f, D nw iw w ew, .int .i64 f] n Q := by
  refine toldD_call hn _ _ _ _ _ _ _ _ _ _ (by simp) hw lw ?_
  have : toldD false [] 0 f nw w ew f = true := by simp [toldD, hf]
  rw [this]; exact hQ
theorem toldD_ok {n : Nat} (hn : 0 < n) (x e E : Int) (i i2 : Sid) (hx : sz x 512) (hE : E = (if x = 0 then 0 else e + tz x.natAbs)) (hok : dyOk x e = true) {Q : PV → Nat → List Nat → Prop}
    (hQ : Q (.bool true) n []) : PCall Tryd.prog 12 [D (decide (dyM x < 0)) i (dig (dyM x).natAbs) (dyE x e), .int .i64 0, D (decide (dyM x < 0)) i2 (dig (dyM x).natAbs) E, .int .i64 0] n Q := by
  have h1 := dyOk_right (e := e) hx
  rw [← hE, hok] at h1
  have hl := (sz_dyM hx).len
  refine toldD_call hn _ _ _ _ _ _ _ _ _ _ (by omega) (by omega) (Lim.dig _) ?_
  have hEE : dyE x e = E := by rw [hE]; rfl
  have : toldD (decide (dyM x < 0)) (dig (dyM x).natAbs) (dyE x e) 0 (decide (dyM x < 0)) (dig (dyM x).natAbs) E 0 = true := by simp [toldD, h1, hEE]
  rw [this]; exact hQ
theorem toldD_no {n : Nat} (hn : 0 < n) (x e E : Int) (i2 : Sid) (hx : sz x 512) (hE : E = (if x = 0 then 0 else e + tz x.natAbs)) (hok : dyOk x e = false) {Q : PV → Nat → List Nat → Prop}
    (hQ : Q (.bool true) n []) : PCall Tryd.prog 12 [D false ⟨0, 0, 0⟩ [] 0, .int .i64 2, D (decide (dyM x < 0)) i2 (dig (dyM x).natAbs) E, .int .i64 0] n Q := by
  have h1 := dyOk_right (e := e) hx
  rw [← hE, hok] at h1
  have hl := (sz_dyM hx).len
  refine toldD_call hn _ _ _ _ _ _ _ _ _ _ (by simp) (by omega) (Lim.dig _) ?_
  have : toldD false [] 0 2 (decide (dyM x < 0)) (dig (dyM x).natAbs) E 0 = true := by simp [toldD, h1]
  rw [this]; exact hQ

theorem formD_call {n : Nat} (hn : 0 < n) (na nb : Bool) (ia ib : Sid) (a b : List Nat) (e f : Int) (ha : a.length < 35184372088800) (hb : b.length < 35184372088800) (la : Lim a) (lb : Lim b) {Q : PV → Nat → List Nat → Prop} (hQ : Q (.int .i64 (if rightD na a e && rightD nb b f then 0 else 1)) n []) : PCall Tryd.prog 22 [D na ia a e, D nb ib b f] n Q := by
  refine of22 hn ?_
  simp (disch := omega) [c22]
  refine CallK.of (by simp) (RightD_call hn na ia a e ha la ?_)
  cases h1 : rightD na a e
  · simp [h1] at hQ; simpa using hQ
  · simp
    refine CallK.of (by simp) (RightD_call hn nb ib b f hb lb ?_)
    cases h2 : rightD nb b f
    · simp [h1, h2] at hQ; simpa using hQ
    · simp [h1, h2] at hQ; simpa using hQ
theorem lightD_call {n : Nat} (hn : 0 < n) (na nb : Bool) (ia ib : Sid) (a b : List Nat) (e f : Int) (ha : a.length < 35184372088800) (hb : b.length < 35184372088800) {Q : PV → Nat → List Nat → Prop} (hQ : Q (.bool (decide (a.length ≤ 30) && decide (b.length ≤ 30))) n []) : PCall Tryd.prog 18 [D na ia a e, D nb ib b f] n Q := by
  refine of18 hn ?_
  by_cases h1 : a.length ≤ 30
  · by_cases h2 : b.length ≤ 30
    · simpa (disch := omega) [c18, h1, h2] using hQ
    · simpa (disch := omega) [c18, h1, h2] using hQ
  · simpa (disch := omega) [c18, h1] using hQ

theorem awakeD_call {n : Nat} (hn : 0 < n) {Q : PV → Nat → List Nat → Prop} (hQ : ∀ n', n ≤ n' → Q (.bool true) n' []) : PCall Tryd.prog 10 [] n Q := by
  have htz : tz 6 = 1 := tz_mul 1 (o := 3) rfl
  have hM : dyM 6 = 3 := by unfold dyM; rw [if_neg (by omega), show (6 : Int).natAbs = 6 from rfl, htz]; rfl
  have hE : dyE 6 (-2) = -1 := by unfold dyE; rw [if_neg (by omega), show (6 : Int).natAbs = 6 from rfl, htz]; rfl
  have hd3 : dig 3 = [3] := by rw [dig_pos (by omega), dig_eq_nil.2 (by omega)]
  refine of10 hn ?_
  simp (disch := omega) [c10]
  refine CallK.of (by simp) (RefOf_call hn 6 (by omega) (by omega) fun i1 n1 g1 d1 => ?_)
  simp (disch := omega) [g1]
  refine CallK.of (by simp) (Make_call (by omega) false i1 (dig 6) (by have := dig_len (v := 6) (k := 1) (by omega); omega) (Lim.dig _) (-2) (fun h => ?_) (fun _ h => by omega) (fun _ _ i2 n2 g2 d2 => ?_))
  · have := rightW_Z (x := 6) (by have := dig_len (v := 6) (k := 1) (by omega); simpa using by omega)
    simp at this
    rw [this] at h; cases h
  · have hnum : numW false (dig 6) = 6 := by simp [numW, val_dig]
    rw [hnum, hM, hE]
    have hok : dyOk 6 (-2) = true := by unfold dyOk; rw [hE]; rfl
    rw [hok]
    simp (disch := omega) [g1, g2, hd3]
    refine CallK.of (by simp) (RefOf_call (by omega) 3 (by omega) (by omega) fun i3 n3 g3 d3 => ?_)
    simp (disch := omega) [g1, g2, g3, hd3]
    refine CallK.of (by simp) (SameD_call (by omega) false false i2 i3 [3] [3] (-1) (-1) (by simp) ?_)
    simp (disch := omega) [g1, g2, g3]
    refine CallK.of (by simp) (TopD_call (by omega) false i2 [3] (-1) (by simp) (.one (by omega)) (by omega) ?_)
    have : topD [3] (-1) = 1 := rfl
    rw [this]
    have := hQ n3 (by omega)
    simpa (disch := omega) [g1, g2, g3] using ⟨by omega, this⟩

theorem DyadicMakes_call {n : Nat} (hn : 0 < n) (na : Bool) (ia : Sid) (hia : ia.f < n) (a : List Nat) (ha : a.length < 35184372088000) (la : Lim a) (e : Int) (he : -9223372036854775808 ≤ e ∧ e < 9223372036854775808) {Q : PV → Nat → List Nat → Prop}
    (hQ : ∀ n' D, n ≤ n' → (∀ x, x ∈ D → n ≤ x) → Q (.bool true) n' D) : PCall Tryd.prog 3 [W na ia a, .int .i64 e] n Q := by
  have hQ : ∀ n', n ≤ n' → Q (.bool true) n' [] := fun n' h => hQ n' [] h (by simp)
  refine of3 hn ?_
  have body : rightW na a = true → a.length ≤ 30 → True := fun _ _ => trivial
  by_cases hr : rightW na a = true
  · by_cases hl : 30 < a.length
    · simp (disch := omega) [c3, hl]
      refine CallK.of (by simp) (Right_call hn na ia a (by omega) ?_)
      simp (disch := omega) [hr]
      refine CallK.of (by simp) (awakeD_call (by omega) fun n2 k2 => ?_)
      simpa [k2] using hQ n2 k2
    · simp (disch := omega) [c3, hl]
      obtain ⟨x, hx1, hx2⟩ := right_Z hr la
      have hnum : numW na a = x := by rw [hx1, hx2, numW_dig]
      have sx : sz x 512 := by rw [hx2] at hl; exact (sz_dig x).mono (by omega)
      by_cases h1 : e < -32768 ∨ 32768 < e
      · refine CallK.of (by simp) (Make_call hn na ia a (by omega) la e (fun h => by rw [hr] at h; cases h) (fun _ _ => ?_) (fun _ h => by omega))
        simp (disch := omega) []
        refine CallK.of (by simp) (Right_call (by omega) na ia a (by omega) ?_)
        by_cases h2 : e < -32768
        · simp (disch := omega) [hr, h2]
          refine CallK.of (by simp) (toldD_err (by omega) false ⟨0, 0, 0⟩ [] 0 2 (by omega) (by simp) .nil ?_)
          simp (disch := omega) []
          refine CallK.of (by simp) (awakeD_call (by omega) fun n2 k2 => ?_)
          simpa [k2] using hQ n2 k2
        · have h3 : 32768 < e := by omega
          simp (disch := omega) [hr, h2, h3]
          refine CallK.of (by simp) (toldD_err (by omega) false ⟨0, 0, 0⟩ [] 0 2 (by omega) (by simp) .nil ?_)
          simp (disch := omega) []
          refine CallK.of (by simp) (awakeD_call (by omega) fun n2 k2 => ?_)
          simpa [k2] using hQ n2 k2
      · have h2 : ¬ e < -32768 := by omega
        have h3 : ¬ 32768 < e := by omega
        have htz : x ≠ 0 → tz x.natAbs < 32 * 512 := fun h => tz_sz h sx
        have hE : (if x = 0 then 0 else IntKind.i64.wrap (e + tz x.natAbs)) = (if x = 0 then 0 else e + tz x.natAbs) := by
          by_cases h0 : x = 0
          · rw [if_pos h0, if_pos h0]
          · rw [if_neg h0, if_neg h0]
            have := htz h0
            exact wrap_i64_is rfl (by omega)
        refine CallK.of (by simp) (Make_call hn na ia a (by omega) la e (fun h => by rw [hr] at h; cases h) (fun _ h => absurd h h1) (fun _ _ i1 n1 g1 d1 => ?_))
        rw [hnum]
        cases hok : dyOk x e
        · simp (disch := omega) [g1]
          refine CallK.of (by simp) (Right_call (by omega) na ia a (by omega) ?_)
          simp (disch := omega) [g1, hr, h2, h3]
          subst hx1; subst hx2
          refine CallK.of (by simp) (RefOfD_call (by omega) x e ia (by omega) (sx.mono (by omega)) (wrap_i64_is rfl (by omega)) fun i2 n2 g2 => ?_)
          simp (disch := omega) [-wrap_i64_at, g1, g2]
          refine CallK.of (by simp) (toldD_no (by omega) x e _ i2 sx hE hok ?_)
          simp (disch := omega) [-wrap_i64_at, g1, g2]
          refine CallK.of (by simp) (awakeD_call (by omega) fun n3 k3 => ?_)
          simpa [show n ≤ n3 by omega] using hQ n3 (by omega)
        · simp (disch := omega) [g1]
          refine CallK.of (by simp) (Right_call (by omega) na ia a (by omega) ?_)
          simp (disch := omega) [g1, hr, h2, h3]
          subst hx1; subst hx2
          refine CallK.of (by simp) (RefOfD_call (by omega) x e ia (by omega) (sx.mono (by omega)) (wrap_i64_is rfl (by omega)) fun i2 n2 g2 => ?_)
          simp (disch := omega) [-wrap_i64_at, g1, g2]
          refine CallK.of (by simp) (toldD_ok (by omega) x e _ i1 i2 sx hE hok ?_)
          simp (disch := omega) [-wrap_i64_at, g1, g2]
          refine CallK.of (by simp) (awakeD_call (by omega) fun n3 k3 => ?_)
          simpa [show n ≤ n3 by omega] using hQ n3 (by omega)
  · rw [Bool.not_eq_true] at hr
    have tail : ∀ G : Prop, G → G := fun _ h => h
    by_cases hl : 30 < a.length
    · simp (disch := omega) [c3, hl]
      refine CallK.of (by simp) (Right_call hn na ia a (by omega) ?_)
      simp (disch := omega) [hr]
      refine CallK.of (by simp) (Make_call hn na ia a (by omega) la e (fun _ => ?_) (fun h => by rw [hr] at h; cases h) (fun h => by rw [hr] at h; cases h))
      simp (disch := omega) []
      refine CallK.of (by simp) (Right_call (by omega) na ia a (by omega) ?_)
      simp (disch := omega) [hr]
      refine CallK.of (by simp) (toldD_err (by omega) false ⟨0, 0, 0⟩ [] 0 1 (by omega) (by simp) .nil ?_)
      simp (disch := omega) []
      refine CallK.of (by simp) (awakeD_call (by omega) fun n2 k2 => ?_)
      simpa [k2] using hQ n2 k2
    · simp (disch := omega) [c3, hl]
      refine CallK.of (by simp) (Make_call hn na ia a (by omega) la e (fun _ => ?_) (fun h => by rw [hr] at h; cases h) (fun h => by rw [hr] at h; cases h))
      simp (disch := omega) []
      refine CallK.of (by simp) (Right_call (by omega) na ia a (by omega) ?_)
      simp (disch := omega) [hr]
      refine CallK.of (by simp) (toldD_err (by omega) false ⟨0, 0, 0⟩ [] 0 1 (by omega) (by simp) .nil ?_)
      simp (disch := omega) []
      refine CallK.of (by simp) (awakeD_call (by omega) fun n2 k2 => ?_)
      simpa [k2] using hQ n2 k2
end Go.Proofs.YtaankihkejodgaaDoor
