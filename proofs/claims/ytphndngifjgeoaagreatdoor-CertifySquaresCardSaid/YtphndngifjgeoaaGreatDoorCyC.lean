/- The sum of squares of differences, noughts and products of tables, by value. -/
import Derived.Test.YtphndngifjgeoaaGreatDoorCyB
set_option linter.unusedVariables false
set_option linter.unusedSimpArgs false
set_option maxRecDepth 20000
set_option maxHeartbeats 2000000
namespace Go.Proofs.YtphndngifjgeoaaGreatDoor
open Go.Proofs

def sumN (f : Nat → Int) : Nat → Int
  | 0 => 0
  | j + 1 => sumN f j + f j
theorem sz_sumN {f : Nat → Int} {p : Nat} : ∀ (j : Nat), (∀ q, q < j → sz (f q) p) → sz (sumN f j) (p + j)
  | 0, _ => sz_zero _
  | j + 1, h => ((sz_sumN j fun q hq => h q (by omega)).add ((h j (by omega)).mono (by omega))).mono (by omega)
theorem sumN_congr {f g : Nat → Int} : ∀ (j : Nat), (∀ q, q < j → f q = g q) → sumN f j = sumN g j
  | 0, _ => rfl
  | j + 1, h => by simp only [sumN]; rw [sumN_congr j fun q hq => h q (by omega), h j (by omega)]
theorem NC_zero (L : Int) (i : Sid) : NC L 0 i = [.bool false, .sl i 1 [], .int .i64 0] := by
  simp [NC, dyM, dyE, dig_zero, u32s]
theorem NV_zero (L : Int) (i : Sid) : NV L 0 i = .agg [.bool false, .sl i 1 [], .int .i64 0] := by
  simp [NV, dyM, dyE, dig_zero, u32s]
theorem newSid_up {a b c d : Nat} {i : Sid} (h : newSid b c i) (h1 : a ≤ b) (h2 : c ≤ d) : newSid a d i := by
  rcases h with h | ⟨h3, h4⟩
  · exact .inl h
  · exact .inr ⟨by omega, by omega⟩

theorem noughts_call {n : Nat} (hn : 0 < n) (r c : Nat) (i : Sid) (z : Nat) (L L' : Int) (l : List Dv) (hl : l.length < 1000000) {Q : PV → Nat → List Nat → Prop}
    (hQ : ∀ (o : Sid) (n' : Nat), n ≤ n' → newSid n n' o → Q (Tb r c o 3 L' (List.replicate l.length ⟨0, ⟨0, 0, 0⟩⟩)) n' []) : PCall Tryz.prog 14 [Tb r c i z L l] n Q := by
  refine of14 hn ?_
  have e : List.replicate l.length (PV.agg [.bool false, .sl ⟨0, 0, 0⟩ 1 [], .int .i64 0]) = (List.replicate l.length (⟨0, ⟨0, 0, 0⟩⟩ : Dv)).map (Dv.pv L') := by
    rw [List.map_replicate]; congr 1
    exact (NV_zero L' _).symm
  have := hQ ⟨n, n, 0⟩ (n + 1) (by omega) (.inr ⟨Nat.le_refl _, by show n < n + 1; omega⟩)
  rw [Tb, ← e] at this
  simpa (disch := omega) [c14] using ⟨by omega, this⟩

/-- The difference at a place. -/
def dfF (l m : List Dv) (q : Nat) : Int := (l.getD q default).v - (m.getD q default).v
def sqS (l m : List Dv) : Int := sumN (fun q => dfF l m q * dfF l m q) l.length
def squI (r c r2 c2 : Nat) (i i2 : Sid) (z z2 : Nat) (L : Int) (l m : List Dv) (n p : Nat) (k : Nat) (s : St) : Prop :=
  ∃ (j nx : Nat) (S : Int) (iS : Sid) (B : List (List PV)) (b0 : List PV), j + k = l.length ∧
    At s 36 ([.int .i64 (r : Int), .int .i64 (c : Int), .sl i z (l.map (Dv.pv L))] :: [.int .i64 (r2 : Int), .int .i64 (c2 : Int), .sl i2 z2 (m.map (Dv.pv L))] :: b0 :: NC (L + L) S iS :: B) nx [(2, .box 0 0), (3, .box 1 0), (4, .box 2 0), (5, .box 3 0), (12, .sl i z (l.map (Dv.pv L))), (13, .int .i64 l.length), (14, .int .i64 j)] ∧
    b0.length = 3 ∧ n ≤ nx ∧ newSid n nx iS ∧ S = sumN (fun q => dfF l m q * dfF l m q) j ∧ sz S (p + j)
theorem square_call {n : Nat} (hn : 0 < n) (r c r2 c2 : Nat) (i i2 : Sid) (z z2 : Nat) (L : Int) (l m : List Dv) (k : Nat) (hlm : m.length = l.length) (h36 : l.length ≤ 36) (hz : z = 3 ∨ l = []) (hz2 : z2 = 3 ∨ m = []) (h1 : DvOk n k l) (h2 : DvOk n k m) (hk : 2 * k + 40 ≤ 511) (hL : -8192 ≤ L ∧ L + 32 * (k + 2) ≤ 16384) (hL2 : L + L + 32 * (2 * k + 41) ≤ 16384) {Q : PV → Nat → List Nat → Prop}
    (hQ : ∀ (i' : Sid) (n' : Nat), n ≤ n' → newSid n n' i' → Q (NV (L + L) (sqS l m) i') n' []) : PCall Tryz.prog 13 [Tb r c i z L l, Tb r2 c2 i2 z2 L m] n Q := by
  refine of13 hn ?_
  simp (disch := omega) [c13]
  refine GO_loopN (squI r c r2 c2 i i2 z z2 L l m n (2 * k + 2)) l.length ⟨0, n, 0, ⟨0, 0, 0⟩, [], [.bool false, .sl ⟨0, 0, 0⟩ 1 [], .int .i64 0], by omega, by rw [NC_zero]; simp [At], rfl, by omega, .inl rfl, rfl, sz_zero _⟩ ?_
  rintro k1 s ⟨j, nx, S, iS, B, b0, hj, ⟨e1, e2, e3, e4, e5⟩, hb0, hnx, hiS, hS, hSs⟩
  simp at e5
  obtain ⟨e5, e6, e7, e8, e9, e10, e11⟩ := e5
  by_cases hkj : j < l.length
  · have hz' : z = 3 := hz.resolve_right (fun h => by rw [h] at hkj; simp at hkj)
    have hz2' : z2 = 3 := hz2.resolve_right (fun h => by rw [h] at hlm; simp at hlm; omega)
    subst hz' hz2'
    have hjm : j < m.length := by omega
    obtain ⟨x, hx⟩ : ∃ x, x = l[j] := ⟨_, rfl⟩
    obtain ⟨y, hy⟩ : ∃ y, y = m[j] := ⟨_, rfl⟩
    have hxo := h1.get hkj
    have hyo := h2.get hjm
    rw [← hx] at hxo
    rw [← hy] at hyo
    simp (disch := omega) [c13L0, e1, e2, e3, e4, e5, e6, e7, e8, e9, e10, e11, hkj, hjm, ← hx, ← hy, hlm]
    refine CallK.of (by simp) (Sub_V (by omega) L x.v y.v (x.v - y.v) x.i y.i k hxo.2 hyo.2 (by omega) (by omega) rfl fun i1 n1 g1 d1 => ?_)
    have hd : dfF l m j = x.v - y.v := by unfold dfF; simp [List.getD, hkj, hjm, hx, hy]
    have hds : sz (x.v - y.v) (k + 1) := hxo.2.sub hyo.2
    obtain ⟨df, hdf⟩ : ∃ df, df = x.v - y.v := ⟨_, rfl⟩
    rw [← hdf] at hd hds ⊢
    simp (disch := omega) [e1, e2, e3, e4, e5, e6, e7, e8, e9, e10, e11, g1]
    refine CallK.of (by simp) (ctimes_call (by omega) L L df df (df * df) i1 i1 (newSid_lt d1 (by omega)) (newSid_lt d1 (by omega)) (k + 1) (k + 1) hds hds (by omega) (by omega) (by omega) (by omega) rfl fun i2' n2 g2 d2 => ?_)
    have hps : sz (df * df) (2 * k + 2) := (hds.mul hds).mono (by omega)
    obtain ⟨pr, hpr⟩ : ∃ pr, pr = df * df := ⟨_, rfl⟩
    rw [← hpr] at hps ⊢
    simp (disch := omega) [e1, e2, e3, e4, e5, e6, e7, e8, e9, e10, e11, g1, g2]
    refine CallK.of (by simp) (cplus_call (by omega) (L + L) S pr (S + pr) iS i2' (2 * k + 2 + j) hSs (hps.mono (by omega)) (by omega) (by omega) rfl fun i3 n3 g3 d3 => ?_)
    simp (disch := omega) [e1, e2, e3, e4, e5, e6, e7, e8, e9, e10, e11, g1, g2, g3]
    exact ⟨k1 - 1, by omega, j + 1, n3, S + pr, i3, _, b0, by omega, by simp [At, e1, e2, e3, e4, e5, e6, e7, e8, e9, e10, e11]; rfl, hb0, by omega, newSid_up d3 (by omega) (by omega), by rw [hS]; simp only [sumN]; rw [hd, hpr], (hSs.add (hps.mono (by omega))).mono (by omega)⟩
  · have hjl : j = l.length := by omega
    have := hQ iS nx hnx hiS
    have hSS : S = sqS l m := by rw [hS, hjl]; rfl
    rw [← hSS] at this
    simp only [NV, D] at this
    simpa (disch := omega) [c13L0, c13R0, e1, e2, e3, e4, e5, e6, e7, e8, e9, e10, e11, hkj, hnx, hb0] using this
end Go.Proofs.YtphndngifjgeoaaGreatDoor
