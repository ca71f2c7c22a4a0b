/- A part of the proof: the texts W5, W6, W7. -/
import Derived.Test.YtblmikccdhdjlaaGreatDoorP08
import Derived.Test.YtblmikccdhdjlaaGreatDoorP09
set_option linter.unusedVariables false
set_option linter.unusedSimpArgs false
section
namespace Go.Proofs.Xx
open Go.RowKit Go.V Go.Grow Kn

/-- The numbers at the head of the division, as the walk has them. -/
theorem div_head (hi lo y s : Nat) (h : hi < y) (hl : lo < 18446744073709551616) (hs : s + Lib.bitLen y = 64) (hy0 : 0 < y) (hy : y < 18446744073709551616) :
    ∃ D un L : Nat, IntKind.u64.wrap ((y : Int) * 2 ^ s) = (D : Int) ∧ 9223372036854775808 ≤ D ∧ D < 18446744073709551616 ∧
      bits .or .u64 (IntKind.u64.wrap ((hi : Int) * 2 ^ s)) ((lo : Int) / 2 ^ (64 - s)) = (un : Int) ∧ un < D ∧ IntKind.u64.wrap ((lo : Int) * 2 ^ s) = (L : Int) ∧ L < 18446744073709551616 ∧
      (un * 18446744073709551616 + L) / D = (hi * 18446744073709551616 + lo) / y ∧ (un * 18446744073709551616 + L) % D / 2 ^ s = (hi * 18446744073709551616 + lo) % y := by
  obtain ⟨b1, b2, b3⟩ := bitLen_bounds y hy0 hy
  have hp : 2 ^ s * 2 ^ Lib.bitLen y = 18446744073709551616 := by rw [← Nat.pow_add, hs]
  have hp2 : 2 ^ s * 2 ^ (Lib.bitLen y - 1) = 9223372036854775808 := by
    rw [← Nat.pow_add, show s + (Lib.bitLen y - 1) = 63 from by omega]
  have hp3 : 2 ^ s * 2 ^ (64 - s) = 18446744073709551616 := by rw [← Nat.pow_add, show s + (64 - s) = 64 from by omega]
  have hs0 : 0 < 2 ^ s := Nat.two_pow_pos s
  have ht0 : 0 < 2 ^ (64 - s) := Nat.two_pow_pos _
  have hD1 : y * 2 ^ s < 18446744073709551616 := by
    rw [← hp, Nat.mul_comm]; exact (Nat.mul_lt_mul_left hs0).2 b1
  have hD2 : 9223372036854775808 ≤ y * 2 ^ s := by
    rw [← hp2, Nat.mul_comm y]; exact Nat.mul_le_mul_left _ b2
  have hA : hi * 2 ^ s + 2 ^ s ≤ y * 2 ^ s := by rw [← Nat.succ_mul]; exact Nat.mul_le_mul_right _ h
  have hB : lo / 2 ^ (64 - s) < 2 ^ s := by rw [Nat.div_lt_iff_lt_mul ht0, hp3]; exact hl
  have e1 := Nat.mod_add_div lo (2 ^ (64 - s))
  have hr := Nat.mod_lt lo ht0
  -- lo * 2 ^ s = (lo % 2 ^ (64 - s)) * 2 ^ s + (lo / 2 ^ (64 - s)) * 2 ^ 64
  have e2 : lo * 2 ^ s = lo % 2 ^ (64 - s) * 2 ^ s + lo / 2 ^ (64 - s) * 18446744073709551616 := by
    rw [← hp3]
    have : lo * 2 ^ s = (lo % 2 ^ (64 - s) + 2 ^ (64 - s) * (lo / 2 ^ (64 - s))) * 2 ^ s := by rw [e1]
    rw [this, Nat.add_mul]
    congr 1
    rw [Nat.mul_comm (2 ^ (64 - s)), Nat.mul_assoc, Nat.mul_comm (2 ^ (64 - s))]
  have hL : lo % 2 ^ (64 - s) * 2 ^ s < 18446744073709551616 := by
    rw [← hp3, Nat.mul_comm]; exact (Nat.mul_lt_mul_left hs0).2 hr
  refine ⟨y * 2 ^ s, hi * 2 ^ s + lo / 2 ^ (64 - s), lo % 2 ^ (64 - s) * 2 ^ s, ?_, hD2, hD1, ?_, by omega, ?_, hL, ?_, ?_⟩
  · rw [show (y : Int) * 2 ^ s = ((y * 2 ^ s : Nat) : Int) from by simp]; exact wrapN _ hD1
  · rw [show (hi : Int) * 2 ^ s = ((hi * 2 ^ s : Nat) : Int) from by simp, wrapN _ (by omega), show (lo : Int) / 2 ^ (64 - s) = ((lo / 2 ^ (64 - s) : Nat) : Int) from by simp]
    rw [bits_or_u64_nat _ _ (by omega) (by omega)]
    congr 1
    rw [Nat.mul_comm hi, ← Nat.two_pow_add_eq_or_of_lt hB]
  · rw [show (lo : Int) * 2 ^ s = ((lo * 2 ^ s : Nat) : Int) from by simp, wrapM, e2]
    congr 1
    omega
  · have : (hi * 2 ^ s + lo / 2 ^ (64 - s)) * 18446744073709551616 + lo % 2 ^ (64 - s) * 2 ^ s = (hi * 18446744073709551616 + lo) * 2 ^ s := by
      rw [Nat.add_mul (hi * 18446744073709551616), e2, Nat.add_mul, Nat.mul_assoc hi, Nat.mul_assoc hi, Nat.mul_comm (2 ^ s)]
      omega
    rw [this]
    exact (shifted _ _ _).1
  · have : (hi * 2 ^ s + lo / 2 ^ (64 - s)) * 18446744073709551616 + lo % 2 ^ (64 - s) * 2 ^ s = (hi * 18446744073709551616 + lo) * 2 ^ s := by
      rw [Nat.add_mul (hi * 18446744073709551616), e2, Nat.add_mul, Nat.mul_assoc hi, Nat.mul_assoc hi, Nat.mul_comm (2 ^ s)]
      omega
    rw [this]
    exact (shifted _ _ _).2

/-- A number in the walk's spelling, under a name of its own. -/
theorem named (x : Nat) : ∃ n : Nat, n = x := ⟨x, rfl⟩

theorem chain_of (un p q D m : Nat) (h : un * 4294967296 + p = q * D + m) (hm : m < 18446744073709551616) :
    ∃ a1 a2 a3 : Nat, IntKind.u64.wrap ((un : Int) * 4294967296) = (a1 : Int) ∧ IntKind.u64.wrap ((a1 : Int) + (p : Int)) = (a2 : Int) ∧ IntKind.u64.wrap ((q : Int) * (D : Int)) = (a3 : Int) ∧ IntKind.u64.wrap ((a2 : Int) - (a3 : Int)) = (m : Int) := by
  refine ⟨un * 4294967296 % 18446744073709551616, (un * 4294967296 % 18446744073709551616 + p) % 18446744073709551616, q * D % 18446744073709551616, ?_, ?_, ?_, ?_⟩
  · rw [show (un : Int) * 4294967296 = ((un * 4294967296 : Nat) : Int) from by omega]; exact wrapM _
  · rw [addN]; exact wrapM _
  · rw [mulN]; exact wrapM _
  · rw [IntKind.wrap_u64]
    generalize q * D = x at *
    omega

/-- The facts of a digit's first try. -/
theorem first_try {n1 n0 un u1 : Nat} (h1 : 2147483648 ≤ n1) (h1' : n1 < 4294967296) (h0 : n0 < 4294967296) (hu : un < n1 * 4294967296 + n0) (hu' : un < 18446744073709551616) (hu1 : u1 < 4294967296) :
    ∃ q r : Nat, IntKind.u64.wrap ((un : Int) / (n1 : Int)) = (q : Int) ∧ IntKind.u64.wrap ((un : Int) - IntKind.u64.wrap ((q : Int) * (n1 : Int))) = (r : Int) ∧ Try n1 n0 un u1 q r ∧ r < 4294967296 := by
  have T := Try.start h1 h0 hu hu1
  have hrn : un % n1 < n1 := Nat.mod_lt _ (by omega)
  refine ⟨un / n1, un % n1, ?_, ?_, T, by omega⟩
  · rw [← Int.natCast_ediv]; exact wrapN _ (by have := T.le; omega)
  · have hs := T.sum
    generalize un / n1 = q at *
    generalize un % n1 = r at *
    rw [mulN, wrapN _ (by omega), show (un : Int) - ((q * n1 : Nat) : Int) = (r : Int) from by omega]
    exact wrapN _ (by omega)

/-- The numbers of a test. -/
theorem test_of (q r n0 u1 : Nat) (hq : q < 4294967296) (hr : r < 4294967296) (h0 : n0 < 4294967296) (hu1 : u1 < 4294967296) :
    ∃ x y z : Nat, IntKind.u64.wrap ((q : Int) * (n0 : Int)) = (x : Int) ∧ IntKind.u64.wrap (4294967296 * (r : Int)) = (y : Int) ∧ IntKind.u64.wrap ((y : Int) + (u1 : Int)) = (z : Int) ∧ (z < x ↔ 4294967296 * r + u1 < q * n0) := by
  have hb : q * n0 ≤ 4294967295 * 4294967295 := Nat.mul_le_mul (by omega) (by omega)
  refine ⟨q * n0, 4294967296 * r, 4294967296 * r + u1, ?_, ?_, ?_, Iff.rfl⟩
  · rw [mulN]; exact wrapN _ (by omega)
  · rw [show 4294967296 * (r : Int) = ((4294967296 * r : Nat) : Int) from by omega]; exact wrapN _ (by omega)
  · rw [addN]; exact wrapN _ (by omega)

/-- The numbers between the two digits. -/
theorem second_head {D n1 n0 un p1 p0 dq : Nat} (hD : D = n1 * 4294967296 + n0) (h1 : 2147483648 ≤ n1) (h1' : n1 < 4294967296) (h0 : n0 < 4294967296) (hp0 : p0 < 4294967296) (hdq : (un * 4294967296 + p1) / (n1 * 4294967296 + n0) = dq) :
    ∃ m a1 a2 a3 q r : Nat, IntKind.u64.wrap ((un : Int) * 4294967296) = (a1 : Int) ∧ IntKind.u64.wrap ((a1 : Int) + (p1 : Int)) = (a2 : Int) ∧ IntKind.u64.wrap ((dq : Int) * (D : Int)) = (a3 : Int) ∧ IntKind.u64.wrap ((a2 : Int) - (a3 : Int)) = (m : Int) ∧
      IntKind.u64.wrap ((m : Int) / (n1 : Int)) = (q : Int) ∧ IntKind.u64.wrap ((m : Int) - IntKind.u64.wrap ((q : Int) * (n1 : Int))) = (r : Int) ∧ Try n1 n0 m p0 q r ∧ r < 4294967296 ∧ m < n1 * 4294967296 + n0 ∧ m = (un * 4294967296 + p1) % D := by
  have hDp : 0 < D := by omega
  have hm := Nat.mod_lt (un * 4294967296 + p1) hDp
  have e := Nat.mod_add_div (un * 4294967296 + p1) D
  have hdq' : (un * 4294967296 + p1) / D = dq := by rw [hD]; exact hdq
  rw [hdq'] at e
  obtain ⟨m, hmm⟩ := named ((un * 4294967296 + p1) % D)
  rw [← hmm] at hm e
  obtain ⟨a1, a2, a3, c1, c2, c3, c4⟩ := chain_of un p1 dq D m (by rw [Nat.mul_comm dq D]; omega) (by omega)
  obtain ⟨q, r, d1, d2, d3, d4⟩ := first_try h1 h1' h0 (un := m) (u1 := p0) (by omega) (by omega) hp0
  exact ⟨m, a1, a2, a3, q, r, c1, c2, c3, c4, d1, d2, d3, d4, by omega, hmm⟩

/-- The numbers at the end. -/
theorem div_end {D n1 n0 un p1 p0 dq m L s quo rem e : Nat} (hD : D = n1 * 4294967296 + n0) (hDp : 9223372036854775808 ≤ D) (hD2 : D < 18446744073709551616) (hu : un < n1 * 4294967296 + n0) (hp1 : p1 < 4294967296) (hL : L = p1 * 4294967296 + p0)
    (hdq : (un * 4294967296 + p1) / (n1 * 4294967296 + n0) = dq) (hm : m = (un * 4294967296 + p1) % D) (hm2 : m < n1 * 4294967296 + n0) (hp0 : p0 < 4294967296) (he : (m * 4294967296 + p0) / (n1 * 4294967296 + n0) = e)
    (hq : (un * 18446744073709551616 + L) / D = quo) (hr : (un * 18446744073709551616 + L) % D / 2 ^ s = rem) :
    ∃ c b1 b2 b3 R : Nat, IntKind.u64.wrap ((dq : Int) * 4294967296) = (c : Int) ∧ IntKind.u64.wrap ((c : Int) + (e : Int)) = (quo : Int) ∧
      IntKind.u64.wrap ((m : Int) * 4294967296) = (b1 : Int) ∧ IntKind.u64.wrap ((b1 : Int) + (p0 : Int)) = (b2 : Int) ∧ IntKind.u64.wrap ((e : Int) * (D : Int)) = (b3 : Int) ∧ IntKind.u64.wrap ((b2 : Int) - (b3 : Int)) = (R : Int) ∧ (R : Int) / 2 ^ s = (rem : Int) := by
  have l1 := lt_base hu hp1
  have l2 := lt_base hm2 hp0
  rw [hdq] at l1
  rw [he] at l2
  rw [← hD] at hdq he
  have hv : un * 18446744073709551616 + L = (un * 4294967296 + p1) * 4294967296 + p0 := by omega
  have F := two_digits_of 4294967296 D (un * 4294967296 + p1) p0 (by omega)
  rw [← hv, hq, ← hm, hdq, he] at F
  have e2 := Nat.mod_add_div (m * 4294967296 + p0) D
  rw [he, F.2] at e2
  have hR := Nat.mod_lt (un * 18446744073709551616 + L) (show 0 < D by omega)
  obtain ⟨R, hRR⟩ := named ((un * 18446744073709551616 + L) % D)
  rw [← hRR] at e2 hR hr
  obtain ⟨b1, b2, b3, c1, c2, c3, c4⟩ := chain_of m p0 e D R (by rw [Nat.mul_comm e D, Nat.add_comm (D * e) R]; exact e2.symm) (by omega)
  refine ⟨dq * 4294967296, b1, b2, b3, R, ?_, ?_, c1, c2, c3, c4, ?_⟩
  · rw [show (dq : Int) * 4294967296 = ((dq * 4294967296 : Nat) : Int) from by omega]; exact wrapN _ (by omega)
  · rw [addN, F.1]; exact wrapN _ (by omega)
  · rw [← hr]; simp

set_option maxHeartbeats 4000000 in
set_option maxRecDepth 100000 in
theorem div64_big (hi lo y quo rem : Nat) (w : World) (h0 : 0 < hi) (h : hi < y) (hl : lo < 18446744073709551616) (hy : y < 18446744073709551616) (hquo : (hi * 18446744073709551616 + lo) / y = quo) (hrem : (hi * 18446744073709551616 + lo) % y = rem) :
    Calls Tryz.prog 160 #[.int .u64 (hi : Int), .int .u64 (lo : Int), .int .u64 (y : Int)] w fun e w' => e = .returned (.tuple #[.int .u64 (quo : Int), .int .u64 (rem : Int)]) ∧ w = w' := by
  obtain ⟨s, hs⟩ : ∃ s : Nat, s + Lib.bitLen y = 64 := ⟨64 - Lib.bitLen y, by have := bitLen_le y; omega⟩
  have hs' : s < 64 := by have := (bitLen_bounds y (by omega) (by omega)).2.2; omega
  obtain ⟨D, un, L, rD, d1, d2, rU, u1, rL, l1, rQ, rR⟩ := div_head hi lo y s h hl hs (by omega) hy
  have rS : (64 - (Lib.bitLen (y : Int).toNat : Int)) = (s : Int) := by rw [Int.toNat_natCast]; omega
  rw [hquo] at rQ
  rw [hrem] at rR
  clear hquo hrem
  obtain ⟨n1, hn1⟩ := named (D / 4294967296)
  obtain ⟨n0, hn0⟩ := named (D % 4294967296)
  obtain ⟨p1, hp1⟩ := named (L / 4294967296)
  obtain ⟨p0, hp0⟩ := named (L % 4294967296)
  have rN1 : (D : Int) / 4294967296 = (n1 : Int) := by rw [hn1]; omega
  have rN0 : bits .and .u64 (D : Int) 4294967295 = (n0 : Int) := by rw [maskN D d2, hn0]
  have rP1 : (L : Int) / 4294967296 = (p1 : Int) := by rw [hp1]; omega
  have rP0 : bits .and .u64 (L : Int) 4294967295 = (p0 : Int) := by rw [maskN L l1, hp0]
  have hD : D = n1 * 4294967296 + n0 := by omega
  have hL : L = p1 * 4294967296 + p0 := by omega
  have hn0' : n0 < 4294967296 := by omega
  have hn1' : 2147483648 ≤ n1 := by omega
  have hn1'' : n1 < 4294967296 := by omega
  have hp0' : p0 < 4294967296 := by omega
  have hp1' : p1 < 4294967296 := by omega
  clear hn1 hn0 hp1 hp0
  have hun : un < n1 * 4294967296 + n0 := by omega
  obtain ⟨q, r, rQ0, rR0, T0, hrH⟩ := first_try hn1' hn1'' hn0' hun (by omega) hp1'
  have HD := Lib.hid hD; have HL := Lib.hid hL; have HS := Lib.hid hs; have HQ := Lib.hid rQ; have HR := Lib.hid rR
  clear hD hL hs rQ rR
  have t1 : ((y : Int) == 0) = false := by simp; omega
  have t2 : ((hi : Int) == 0) = false := by simp; omega
  go_enter Tryz.func160, Tryz.ntmps160
  go_wp2_with fail
  refine (lead64 y w (by omega) (by omega)).mono ?_
  rintro e w' ⟨rfl, rfl⟩
  rw [rS]
  clear rS
  go_wp2
  go_loop [15, 16] (fun a b => ∃ q r : Nat, a = .int .u64 (q : Int) ∧ b = .int .u64 (r : Int) ∧ Try n1 n0 un p1 q r ∧ r < 4294967296) (fun a _ => (intOf a).toNat)
  case atStart => exact ⟨q, r, rfl, rfl, T0, hrH⟩
  case round =>
    clear T0 hrH rQ0 rR0
    obtain ⟨q1, r1, rfl, rfl, T, hr⟩ := hrel
    by_cases hdone : ¬ 4294967296 ≤ q1 ∧ ¬ 4294967296 * r1 + p1 < q1 * n0
    · obtain ⟨x, y1, z, e1, e2, e3, e4⟩ := test_of q1 r1 n0 p1 (by omega) hr hn0' hp1'
      have e5 : ¬ z < x := fun hh => hdone.2 (e4.1 hh)
      have f1 : ¬ (4294967296 : Int) ≤ (q1 : Int) := by omega
      have HDQ := Lib.hid (T.hit hun (by omega))
      clear e4 hdone T
      obtain ⟨m, a1, a2, a3, q2, r2, g1, g2, g3, g4, g5, g6, T2, hr2, hmlt, hM⟩ := second_head HD.out hn1' hn1'' hn0' hp0' HDQ.out
      have HM := Lib.hid hM; clear hM
      go_wp2
      go_loop [18, 16] (fun a b => ∃ q r : Nat, a = .int .u64 (q : Int) ∧ b = .int .u64 (r : Int) ∧ Try n1 n0 m p0 q r ∧ r < 4294967296) (fun a _ => (intOf a).toNat)
      case atStart => exact ⟨q2, r2, rfl, rfl, T2, hr2⟩
      case round =>
        clear T2 hr2 g5 g6
        obtain ⟨q3, r3, rfl, rfl, T3, hr3⟩ := hrel
        by_cases hdone : ¬ 4294967296 ≤ q3 ∧ ¬ 4294967296 * r3 + p0 < q3 * n0
        · obtain ⟨x, y1, z, e1, e2, e3, e4⟩ := test_of q3 r3 n0 p0 (by omega) hr3 hn0' hp0'
          have e5 : ¬ z < x := fun hh => hdone.2 (e4.1 hh)
          have f1 : ¬ (4294967296 : Int) ≤ (q3 : Int) := by omega
          have hdig2 := Lib.hid (T3.hit hmlt (by omega))
          clear e4 hdone T3
          obtain ⟨c, b1, b2, b3, R, k1, k2, k3, k4, k5, k6, k7⟩ := div_end HD.out d1 d2 hun hp1' HL.out HDQ.out HM.out hmlt hp0' hdig2.out HQ.out HR.out
          go_wp2
          go_ret2
          exact ⟨rfl, rfl⟩
        · have hmi := T3.miss hmlt hp0' (by omega)
          have hmi2 := hmi.2
          have hq0 := hmi.1
          have hle := hmi2.le
          have hle3 := T3.le
          have W1 : IntKind.u64.wrap ((q3 : Int) - 1) = ((q3 - 1 : Nat) : Int) := by rw [show (q3 : Int) - 1 = ((q3 - 1 : Nat) : Int) from by omega]; exact wrapN _ (by omega)
          have W2 : IntKind.u64.wrap ((r3 : Int) + (n1 : Int)) = ((r3 + n1 : Nat) : Int) := by rw [addN]; exact wrapN _ (by omega)
          have hcase : (4294967296 : Int) ≤ (q3 : Int) ∨ (¬ (4294967296 : Int) ≤ (q3 : Int) ∧ 4294967296 * r3 + p0 < q3 * n0) := by omega
          obtain ⟨q4, hq4⟩ := named (q3 - 1)
          obtain ⟨r4, hr4⟩ := named (r3 + n1)
          have hlt4 : q4 < q3 := by omega
          rw [← hq4, ← hr4] at hmi2
          rw [← hq4] at W1 hle
          rw [← hr4] at W2
          have hr4' : r4 < 8589934592 := by omega
          have hq4le : (q4 : Int) ≤ 4294967296 := by omega
          clear hq4 hr4 hmi hdone hq0 hle3
          rcases hcase with hc | ⟨hc, hc2⟩
          · by_cases hf : (4294967296 : Int) ≤ (r4 : Int)
            · have hdig2 := Lib.hid (hmi2.far hn0' hmlt (by omega) (by omega))
              clear hle hr3 hr4' hmi2 T3
              obtain ⟨c, b1, b2, b3, R, k1, k2, k3, k4, k5, k6, k7⟩ := div_end HD.out d1 d2 hun hp1' HL.out HDQ.out HM.out hmlt hp0' hdig2.out HQ.out HR.out
              go_wp2
              go_ret2
              exact ⟨rfl, rfl⟩
            · have HT := Lib.hid hmi2
              have hr5 : r4 < 4294967296 := by omega
              clear hle hr4' hmi2 T3 hr3
              go_wp2
              go_round
              case rel => exact ⟨q4, r4, rfl, rfl, HT.out, hr5⟩
              case measure => simp [intOf]; omega
          · obtain ⟨x, y1, z, e1, e2, e3, e4⟩ := test_of q3 r3 n0 p0 (by omega) hr3 hn0' hp0'
            have e5 : z < x := e4.2 hc2
            clear e4 hc2
            by_cases hf : (4294967296 : Int) ≤ (r4 : Int)
            · have hdig2 := Lib.hid (hmi2.far hn0' hmlt (by omega) (by omega))
              clear hle hr3 hr4' hmi2 T3
              obtain ⟨c, b1, b2, b3, R, k1, k2, k3, k4, k5, k6, k7⟩ := div_end HD.out d1 d2 hun hp1' HL.out HDQ.out HM.out hmlt hp0' hdig2.out HQ.out HR.out
              go_wp2
              go_ret2
              exact ⟨rfl, rfl⟩
            · have HT := Lib.hid hmi2
              have hr5 : r4 < 4294967296 := by omega
              clear hle hr4' hmi2 T3 hr3
              go_wp2
              go_round
              case rel => exact ⟨q4, r4, rfl, rfl, HT.out, hr5⟩
              case measure => simp [intOf]; omega
    · have hmi := T.miss hun hp1' (by omega)
      have hmi2 := hmi.2
      have hq0 := hmi.1
      have hle := hmi2.le
      have hle3 := T.le
      have W1 : IntKind.u64.wrap ((q1 : Int) - 1) = ((q1 - 1 : Nat) : Int) := by rw [show (q1 : Int) - 1 = ((q1 - 1 : Nat) : Int) from by omega]; exact wrapN _ (by omega)
      have W2 : IntKind.u64.wrap ((r1 : Int) + (n1 : Int)) = ((r1 + n1 : Nat) : Int) := by rw [addN]; exact wrapN _ (by omega)
      have hcase : (4294967296 : Int) ≤ (q1 : Int) ∨ (¬ (4294967296 : Int) ≤ (q1 : Int) ∧ 4294967296 * r1 + p1 < q1 * n0) := by omega
      obtain ⟨q4, hq4⟩ := named (q1 - 1)
      obtain ⟨r4, hr4⟩ := named (r1 + n1)
      have hlt4 : q4 < q1 := by omega
      rw [← hq4, ← hr4] at hmi2
      rw [← hq4] at W1 hle
      rw [← hr4] at W2
      have hr4' : r4 < 8589934592 := by omega
      have hq4le : (q4 : Int) ≤ 4294967296 := by omega
      clear hq4 hr4 hmi hdone hq0 hle3
      rcases hcase with hc | ⟨hc, hc2⟩
      · by_cases hf : (4294967296 : Int) ≤ (r4 : Int)
        · have HDQ := Lib.hid (hmi2.far hn0' hun (by omega) (by omega))
          clear hle hr hr4' hmi2 T
          obtain ⟨m, a1, a2, a3, q2, r2, g1, g2, g3, g4, g5, g6, T2, hr2, hmlt, hM⟩ := second_head HD.out hn1' hn1'' hn0' hp0' HDQ.out
          have HM := Lib.hid hM; clear hM
          go_wp2
          go_loop [18, 16] (fun a b => ∃ q r : Nat, a = .int .u64 (q : Int) ∧ b = .int .u64 (r : Int) ∧ Try n1 n0 m p0 q r ∧ r < 4294967296) (fun a _ => (intOf a).toNat)
          case atStart => exact ⟨q2, r2, rfl, rfl, T2, hr2⟩
          case round =>
            clear T2 hr2 g5 g6
            obtain ⟨q3, r3, rfl, rfl, T3, hr3⟩ := hrel
            by_cases hdone : ¬ 4294967296 ≤ q3 ∧ ¬ 4294967296 * r3 + p0 < q3 * n0
            · obtain ⟨x, y1, z, e1, e2, e3, e4⟩ := test_of q3 r3 n0 p0 (by omega) hr3 hn0' hp0'
              have e5 : ¬ z < x := fun hh => hdone.2 (e4.1 hh)
              have f1 : ¬ (4294967296 : Int) ≤ (q3 : Int) := by omega
              have hdig2 := Lib.hid (T3.hit hmlt (by omega))
              clear e4 hdone T3
              obtain ⟨c, b1, b2, b3, R, k1, k2, k3, k4, k5, k6, k7⟩ := div_end HD.out d1 d2 hun hp1' HL.out HDQ.out HM.out hmlt hp0' hdig2.out HQ.out HR.out
              go_wp2
              go_ret2
              exact ⟨rfl, rfl⟩
            · have hmi := T3.miss hmlt hp0' (by omega)
              have hmi2 := hmi.2
              have hq0 := hmi.1
              have hle := hmi2.le
              have hle3 := T3.le
              have W1 : IntKind.u64.wrap ((q3 : Int) - 1) = ((q3 - 1 : Nat) : Int) := by rw [show (q3 : Int) - 1 = ((q3 - 1 : Nat) : Int) from by omega]; exact wrapN _ (by omega)
              have W2 : IntKind.u64.wrap ((r3 : Int) + (n1 : Int)) = ((r3 + n1 : Nat) : Int) := by rw [addN]; exact wrapN _ (by omega)
              have hcase : (4294967296 : Int) ≤ (q3 : Int) ∨ (¬ (4294967296 : Int) ≤ (q3 : Int) ∧ 4294967296 * r3 + p0 < q3 * n0) := by omega
              obtain ⟨q4, hq4⟩ := named (q3 - 1)
              obtain ⟨r4, hr4⟩ := named (r3 + n1)
              have hlt4 : q4 < q3 := by omega
              rw [← hq4, ← hr4] at hmi2
              rw [← hq4] at W1 hle
              rw [← hr4] at W2
              have hr4' : r4 < 8589934592 := by omega
              have hq4le : (q4 : Int) ≤ 4294967296 := by omega
              clear hq4 hr4 hmi hdone hq0 hle3
              rcases hcase with hc | ⟨hc, hc2⟩
              · by_cases hf : (4294967296 : Int) ≤ (r4 : Int)
                · have hdig2 := Lib.hid (hmi2.far hn0' hmlt (by omega) (by omega))
                  clear hle hr3 hr4' hmi2 T3
                  obtain ⟨c, b1, b2, b3, R, k1, k2, k3, k4, k5, k6, k7⟩ := div_end HD.out d1 d2 hun hp1' HL.out HDQ.out HM.out hmlt hp0' hdig2.out HQ.out HR.out
                  go_wp2
                  go_ret2
                  exact ⟨rfl, rfl⟩
                · have HT := Lib.hid hmi2
                  have hr5 : r4 < 4294967296 := by omega
                  clear hle hr4' hmi2 T3 hr3
                  go_wp2
                  go_round
                  case rel => exact ⟨q4, r4, rfl, rfl, HT.out, hr5⟩
                  case measure => simp [intOf]; omega
              · obtain ⟨x, y1, z, e1, e2, e3, e4⟩ := test_of q3 r3 n0 p0 (by omega) hr3 hn0' hp0'
                have e5 : z < x := e4.2 hc2
                clear e4 hc2
                by_cases hf : (4294967296 : Int) ≤ (r4 : Int)
                · have hdig2 := Lib.hid (hmi2.far hn0' hmlt (by omega) (by omega))
                  clear hle hr3 hr4' hmi2 T3
                  obtain ⟨c, b1, b2, b3, R, k1, k2, k3, k4, k5, k6, k7⟩ := div_end HD.out d1 d2 hun hp1' HL.out HDQ.out HM.out hmlt hp0' hdig2.out HQ.out HR.out
                  go_wp2
                  go_ret2
                  exact ⟨rfl, rfl⟩
                · have HT := Lib.hid hmi2
                  have hr5 : r4 < 4294967296 := by omega
                  clear hle hr4' hmi2 T3 hr3
                  go_wp2
                  go_round
                  case rel => exact ⟨q4, r4, rfl, rfl, HT.out, hr5⟩
                  case measure => simp [intOf]; omega
        · have HT := Lib.hid hmi2
          have hr5 : r4 < 4294967296 := by omega
          clear hle hr4' hmi2 T hr
          go_wp2
          go_round
          case rel => exact ⟨q4, r4, rfl, rfl, HT.out, hr5⟩
          case measure => simp [intOf]; omega
      · obtain ⟨x, y1, z, e1, e2, e3, e4⟩ := test_of q1 r1 n0 p1 (by omega) hr hn0' hp1'
        have e5 : z < x := e4.2 hc2
        clear e4 hc2
        by_cases hf : (4294967296 : Int) ≤ (r4 : Int)
        · have HDQ := Lib.hid (hmi2.far hn0' hun (by omega) (by omega))
          clear hle hr hr4' hmi2 T
          obtain ⟨m, a1, a2, a3, q2, r2, g1, g2, g3, g4, g5, g6, T2, hr2, hmlt, hM⟩ := second_head HD.out hn1' hn1'' hn0' hp0' HDQ.out
          have HM := Lib.hid hM; clear hM
          go_wp2
          go_loop [18, 16] (fun a b => ∃ q r : Nat, a = .int .u64 (q : Int) ∧ b = .int .u64 (r : Int) ∧ Try n1 n0 m p0 q r ∧ r < 4294967296) (fun a _ => (intOf a).toNat)
          case atStart => exact ⟨q2, r2, rfl, rfl, T2, hr2⟩
          case round =>
            clear T2 hr2 g5 g6
            obtain ⟨q3, r3, rfl, rfl, T3, hr3⟩ := hrel
            by_cases hdone : ¬ 4294967296 ≤ q3 ∧ ¬ 4294967296 * r3 + p0 < q3 * n0
            · obtain ⟨x, y1, z, e1, e2, e3, e4⟩ := test_of q3 r3 n0 p0 (by omega) hr3 hn0' hp0'
              have e5 : ¬ z < x := fun hh => hdone.2 (e4.1 hh)
              have f1 : ¬ (4294967296 : Int) ≤ (q3 : Int) := by omega
              have hdig2 := Lib.hid (T3.hit hmlt (by omega))
              clear e4 hdone T3
              obtain ⟨c, b1, b2, b3, R, k1, k2, k3, k4, k5, k6, k7⟩ := div_end HD.out d1 d2 hun hp1' HL.out HDQ.out HM.out hmlt hp0' hdig2.out HQ.out HR.out
              go_wp2
              go_ret2
              exact ⟨rfl, rfl⟩
            · have hmi := T3.miss hmlt hp0' (by omega)
              have hmi2 := hmi.2
              have hq0 := hmi.1
              have hle := hmi2.le
              have hle3 := T3.le
              have W1 : IntKind.u64.wrap ((q3 : Int) - 1) = ((q3 - 1 : Nat) : Int) := by rw [show (q3 : Int) - 1 = ((q3 - 1 : Nat) : Int) from by omega]; exact wrapN _ (by omega)
              have W2 : IntKind.u64.wrap ((r3 : Int) + (n1 : Int)) = ((r3 + n1 : Nat) : Int) := by rw [addN]; exact wrapN _ (by omega)
              have hcase : (4294967296 : Int) ≤ (q3 : Int) ∨ (¬ (4294967296 : Int) ≤ (q3 : Int) ∧ 4294967296 * r3 + p0 < q3 * n0) := by omega
              obtain ⟨q4, hq4⟩ := named (q3 - 1)
              obtain ⟨r4, hr4⟩ := named (r3 + n1)
              have hlt4 : q4 < q3 := by omega
              rw [← hq4, ← hr4] at hmi2
              rw [← hq4] at W1 hle
              rw [← hr4] at W2
              have hr4' : r4 < 8589934592 := by omega
              have hq4le : (q4 : Int) ≤ 4294967296 := by omega
              clear hq4 hr4 hmi hdone hq0 hle3
              rcases hcase with hc | ⟨hc, hc2⟩
              · by_cases hf : (4294967296 : Int) ≤ (r4 : Int)
                · have hdig2 := Lib.hid (hmi2.far hn0' hmlt (by omega) (by omega))
                  clear hle hr3 hr4' hmi2 T3
                  obtain ⟨c, b1, b2, b3, R, k1, k2, k3, k4, k5, k6, k7⟩ := div_end HD.out d1 d2 hun hp1' HL.out HDQ.out HM.out hmlt hp0' hdig2.out HQ.out HR.out
                  go_wp2
                  go_ret2
                  exact ⟨rfl, rfl⟩
                · have HT := Lib.hid hmi2
                  have hr5 : r4 < 4294967296 := by omega
                  clear hle hr4' hmi2 T3 hr3
                  go_wp2
                  go_round
                  case rel => exact ⟨q4, r4, rfl, rfl, HT.out, hr5⟩
                  case measure => simp [intOf]; omega
              · obtain ⟨x, y1, z, e1, e2, e3, e4⟩ := test_of q3 r3 n0 p0 (by omega) hr3 hn0' hp0'
                have e5 : z < x := e4.2 hc2
                clear e4 hc2
                by_cases hf : (4294967296 : Int) ≤ (r4 : Int)
                · have hdig2 := Lib.hid (hmi2.far hn0' hmlt (by omega) (by omega))
                  clear hle hr3 hr4' hmi2 T3
                  obtain ⟨c, b1, b2, b3, R, k1, k2, k3, k4, k5, k6, k7⟩ := div_end HD.out d1 d2 hun hp1' HL.out HDQ.out HM.out hmlt hp0' hdig2.out HQ.out HR.out
                  go_wp2
                  go_ret2
                  exact ⟨rfl, rfl⟩
                · have HT := Lib.hid hmi2
                  have hr5 : r4 < 4294967296 := by omega
                  clear hle hr4' hmi2 T3 hr3
                  go_wp2
                  go_round
                  case rel => exact ⟨q4, r4, rfl, rfl, HT.out, hr5⟩
                  case measure => simp [intOf]; omega
        · have HT := Lib.hid hmi2
          have hr5 : r4 < 4294967296 := by omega
          clear hle hr4' hmi2 T hr
          go_wp2
          go_round
          case rel => exact ⟨q4, r4, rfl, rfl, HT.out, hr5⟩
          case measure => simp [intOf]; omega
end Go.Proofs.Xx
end
section
namespace Go.Proofs.Xx
open Go.RowKit Go.V Go.Grow Kn
set_option maxHeartbeats 1000000 in
set_option maxRecDepth 100000 in
theorem div64_small (lo y : Nat) (w : World) (h : 0 < y) (hl : lo < 18446744073709551616) :
    Calls Tryz.prog 160 #[.int .u64 0, .int .u64 (lo : Int), .int .u64 (y : Int)] w fun e w' => e = .returned (.tuple #[.int .u64 ((lo / y : Nat) : Int), .int .u64 ((lo % y : Nat) : Int)]) ∧ Ext w w' := by
  have t1 : ((y : Int) == 0) = false := by simp; omega
  have t2 : ¬ (y : Int) = 0 := by omega
  have t3 : ¬ (y : Int) ≤ 0 := by omega
  go_enter Tryz.func160, Tryz.ntmps160
  go_wp2
  refine ro_region 8 [none, none, none, none, none, none, none, none] (by kernel_rfl) (by kernel_rfl) ?_
  go_simp
  repeat (apply ro_quiet rfl; (intro w1 hE _; go_simp; exact rfl); go_simp)
  refine ro_done (fun w1 hE hf => ?_)
  simp only [List.drop_succ_cons, List.drop_nil]
  go_wp2
  go_ret2
  rw [← Int.natCast_ediv, wrapN _ (Nat.lt_of_le_of_lt (Nat.div_le_self lo y) hl), Int.tmod_eq_emod_of_nonneg (by omega), ← Int.natCast_emod]
  exact ⟨rfl, Ext.trans _ _ _ (Ext.drew _) hE⟩
theorem div64 : C389 := by
  intro hi lo y w h0 h h2 h3 h4
  obtain ⟨a, rfl⟩ := Int.eq_ofNat_of_zero_le h0
  obtain ⟨b, rfl⟩ := Int.eq_ofNat_of_zero_le h2
  obtain ⟨c, rfl⟩ := Int.eq_ofNat_of_zero_le (show 0 ≤ y by omega)
  unfold divQ divR
  simp only [Int.toNat_natCast]
  rcases Nat.eq_zero_or_pos a with rfl | hp
  · have := div64_small b c w (by omega) (by omega)
    simpa using this
  · refine (div64_big a b c _ _ w hp (by omega) (by omega) (by omega) rfl rfl).mono ?_
    rintro e w' ⟨rfl, rfl⟩
    exact ⟨rfl, Ext.refl _⟩
end Go.Proofs.Xx
end
section
namespace Go.Proofs.Xx
open Go.RowKit Go.V Go.Grow

/-- What comparing two numbers answers. -/
def CmpIs (a b : Nat) (c : Int) : Prop := (c < 0 ↔ a < b) ∧ (c = 0 ↔ a = b) ∧ -9223372036854775808 ≤ c ∧ c ≤ 9223372036854775807
theorem cmp_len {a b : Nat} (h : (mass a).length ≠ (mass b).length) (hl : (mass a).length ≤ 9223372036854775807) (hl2 : (mass b).length ≤ 9223372036854775807) : CmpIs a b ((mass a).length - (mass b).length : Int) := by
  have key : ∀ a b : Nat, (mass a).length < (mass b).length → a < b := fun a b h => by
    have h1 := Dig.lt_digs_len G_two a
    have h2 := Dig.le_of_digs_len G_two h
    exact Nat.lt_of_lt_of_le h1 h2
  refine ⟨?_, ?_, by omega, by omega⟩
  · constructor
    · intro h1; exact key a b (by omega)
    · intro h1
      rcases Nat.lt_or_gt_of_ne h with h2 | h2
      · omega
      · have := key b a h2; omega
  · constructor
    · intro h1; omega
    · rintro rfl; exact absurd rfl h
/-- The highest place in which two lists differ tells which is the greater. -/
theorem val_lt_of {xs ys : List Nat} (hl : xs.length = ys.length) (hx : ∀ x ∈ xs, x < G) {i : Nat} (hi : i < xs.length) (hup : ∀ k, i < k → k < xs.length → xs.getD k 0 = ys.getD k 0) (hlt : xs.getD i 0 < ys.getD i 0) : Dig.val G xs < Dig.val G ys := by
  have e1 := Dig.val_take_drop G xs (i + 1) (by omega)
  have e2 := Dig.val_take_drop G ys (i + 1) (by omega)
  have e3 : xs.drop (i + 1) = ys.drop (i + 1) := by
    apply List.ext_getElem
    · simp [hl]
    · intro k h1 h2
      simp only [List.length_drop] at h1 h2
      have := hup (i + 1 + k) (by omega) (by omega)
      rw [List.getD_eq_getElem?_getD, List.getElem?_eq_getElem (by omega), List.getD_eq_getElem?_getD, List.getElem?_eq_getElem (by omega)] at this
      simpa using this
  rw [Dig.val_take_succ G xs i hi] at e1
  rw [Dig.val_take_succ G ys i (by omega)] at e2
  have h1 := Dig.val_lt (b := G) (xs.take i) (fun x h => hx x (List.mem_of_mem_take h))
  rw [List.length_take, Nat.min_eq_left (by omega)] at h1
  have h2 : xs.getD i 0 * G ^ i + G ^ i ≤ ys.getD i 0 * G ^ i := by rw [← Nat.succ_mul]; exact Nat.mul_le_mul_right _ hlt
  rw [e3] at e1
  omega

set_option maxHeartbeats 1000000 in
theorem cmp_any (va vb : Value) (a b : Nat) (w : World) (ha : IsMass w va a) (hb : IsMass w vb b) :
    Calls Tryz.prog 156 #[va, vb] w fun e w' => ∃ c : Int, e = .returned (.int .i64 c) ∧ CmpIs a b c ∧ Ext w w' := by
  obtain ⟨A1, c1, rfl, hc1, hm1, hr1⟩ := ha
  obtain ⟨A2, c2, rfl, hc2, hm2, hr2⟩ := hb
  unfold maxLen at hm1 hm2
  by_cases hlen : (mass a).length = (mass b).length
  · have hva : Dig.val G (mass a) = a := Dig.val_digs G_two a
    have hvb : Dig.val G (mass b) = b := Dig.val_digs G_two b
    have hla := mass_lt a
    have hlb := mass_lt b
    generalize mass a = xs at *
    generalize mass b = ys at *
    have HL := Lib.hid hlen
    rw [← hlen] at hc2 ⊢
    clear hlen
    go_enter Tryz.func156, Tryz.ntmps156
    go_wp2
    go_loopw [5] (fun t wr => ∃ k : Nat, k ≤ xs.length ∧ t = .int .i64 ((k : Int) - 1) ∧ (∀ j, k ≤ j → j < xs.length → xs.getD j 0 = ys.getD j 0) ∧ Ext w wr) (fun t _ => (intOf t + 1).toNat)
    case atStart => exact ⟨xs.length, Nat.le_refl _, rfl, fun j h1 h2 => by omega, Ext.refl _⟩
    case round =>
      obtain ⟨k, hk, rfl, heq, hE⟩ := hrel
      have HE := Lib.hid heq; clear heq
      rcases k with _ | k
      · go_wp2
        go_ret
        refine ⟨0, rfl, ?_, hE⟩
        have e : xs = ys := by
          apply List.ext_getElem
          · exact HL.out
          · intro j h1 h2
            have := HE.out j (Nat.zero_le _) h1
            rwa [List.getD_eq_getElem?_getD, List.getElem?_eq_getElem h1, List.getD_eq_getElem?_getD, List.getElem?_eq_getElem h2] at this
        have : a = b := by rw [← hva, ← hvb, e]
        unfold CmpIs
        omega
      · obtain ⟨b1, o1, rfl, hcx⟩ := hr1.at k (by omega)
        obtain ⟨b2, o2, rfl, hcy⟩ := hr2.at k (by rw [← HL.out]; omega)
        have hxG : xs.getD k 0 < G := Dig.getD_lt hla (by unfold G; omega) k
        have hcx' := hE.cell hcx
        have hcy' := hE.cell hcy
        have hb1 : (k : Int) < (xs.length : Int) := by omega
        have hb2 : k < xs.length := by omega
        clear hcx hcy
        have hlt1 := fun h => val_lt_of (i := k) HL.out hla (by omega) (fun j h1 h2 => HE.out j h1 h2) h
        have hlt2 := fun h => val_lt_of (i := k) HL.out.symm hlb (by rw [← HL.out]; omega) (fun j h1 h2 => (HE.out j h1 (by rw [HL.out]; exact h2)).symm) h
        rw [hva, hvb] at hlt1 hlt2
        have L1 := Lib.hid hlt1; have L2 := Lib.hid hlt2; clear hlt1 hlt2
        obtain ⟨x, hxe⟩ : ∃ x, x = xs.getD k 0 := ⟨_, rfl⟩
        obtain ⟨y, hye⟩ : ∃ y, y = ys.getD k 0 := ⟨_, rfl⟩
        rw [← hxe] at hcx' hxG
        rw [← hye] at hcy'
        have Hx := Lib.hid hxe; have Hy := Lib.hid hye; clear hxe hye
        go_wp2
        refine ro_region 10 [none, none, none, none, none, none, none, none, none, none] (by kernel_rfl) (by kernel_rfl) ?_
        go_simp
        repeat (apply ro_quiet rfl; (intro w1 hE _; have hX := hE.cell hcx'; have hY := hE.cell hcy'; go_simp; exact rfl); go_simp)
        refine ro_done (fun w1 hE1 hf => ?_)
        clear hf
        simp only [List.drop_succ_cons, List.drop_nil]
        have hE2 := Ext.trans _ _ _ (Ext.trans _ _ _ hE (Ext.drew _)) hE1
        have hcx1 := (Ext.trans _ _ _ (Ext.drew _) hE1).cell hcx'
        have hcy1 := (Ext.trans _ _ _ (Ext.drew _) hE1).cell hcy'
        clear hcx' hcy' hE1 hE
        by_cases hxy : x < y
        · have h1 := L1.out (by rw [← Hx.out, ← Hy.out]; exact hxy)
          go_wp2
          go_ret
          exact ⟨-1, rfl, by unfold CmpIs; omega, hE2⟩
        · go_wp2
          refine ro_region 10 [none, none, none, none, none, none, none, none, none, none] (by kernel_rfl) (by kernel_rfl) ?_
          go_simp
          repeat (apply ro_quiet rfl; (intro w1 hE _; have hX := hE.cell hcx1; have hY := hE.cell hcy1; go_simp; exact rfl); go_simp)
          refine ro_done (fun w2 hE3 hf => ?_)
          clear hf
          simp only [List.drop_succ_cons, List.drop_nil]
          have hE4 := Ext.trans _ _ _ (Ext.trans _ _ _ hE2 (Ext.drew _)) hE3
          clear hcx1 hcy1 hE3 hE2
          by_cases hyx : y < x
          · have h1 := L2.out (by rw [← Hx.out, ← Hy.out]; exact hyx)
            go_wp2
            go_ret
            exact ⟨1, rfl, by unfold CmpIs; omega, hE4⟩
          · go_wp2
            go_roundw
            case rel =>
              refine ⟨k, by omega, by go_num, fun j h1 h2 => ?_, hE4⟩
              by_cases e : j = k
              · subst e
                rw [← Hx.out, ← Hy.out]
                omega
              · exact HE.out j (by omega) h2
            case measure => simp [intOf]
  · have hC := cmp_len hlen (by omega) (by omega)
    have h1 : (((mass a).length : Int) != (mass b).length) = true := by rw [bne_iff_ne]; omega
    generalize mass a = xs at *
    generalize mass b = ys at *
    go_enter Tryz.func156, Tryz.ntmps156
    go_wp2
    go_ret
    exact ⟨_, rfl, hC, Ext.refl _⟩
end Go.Proofs.Xx
end
