/- A part of the proof: the texts W2, W3. -/
import Derived.Test.YtblmikccdhdjlaaGreatDoorProg
import Derived.Test.YtblmikccdhdjlaaGreatDoorP05
import Derived.Test.YtblmikccdhdjlaaGreatDoorP04
set_option linter.unusedVariables false
set_option linter.unusedSimpArgs false
section
namespace Go.Proofs.Xx
open Go.RowKit Go.V Go.Grow
theorem info403 : (Tryz.prog.info? 192).map (fun i => (i.zero, i.size, i.bytes)) = some (some (.int .u64 0), 1, 8) := by kernel_rfl
theorem make_mass (c : Int) (h0 : 0 ≤ c) (hc : c ≤ 35184372088832) (W : World) : (Instr.makeSlice 107 (.int .i64 c) (.int .i64 c)).run Tryz.prog W = .ok (.slice (some ⟨W.heap.size, 0, none⟩) c.toNat c.toNat) (W.alloc (.cells (u64s (List.replicate c.toNat 0)).toArray 192)) := by
  obtain ⟨i0, hi, hzz⟩ := Option.map_eq_some_iff.1 info403
  simp only [Prod.mk.injEq] at hzz
  obtain ⟨hz0, hz1, hz2⟩ := hzz
  rw [run_make W 107 192 i0 (.int .u64 0) Tryz.underlying107 hi hz0 .i64 .i64 c c h0 (Int.le_refl _) (by rw [hz2]; omega) (by omega), hz1, Nat.mul_one]
  show Result.ok _ (W.alloc (.cells (madeCells #[.int .u64 0] c.toNat) 192)) = _
  rw [made_zeros]
def addLo (x y : Nat) : Nat := (x + y) % 18446744073709551616
def addHi (x y : Nat) : Nat := (x + y) / 18446744073709551616
theorem add64 (x y : Nat) (w : World) : (callFunc 159 #[.int .u64 (x : Int), .int .u64 (y : Int), .int .u64 0]).run Tryz.prog w = .ok (.value (.tuple #[.int .u64 (addLo x y : Int), .int .u64 (addHi x y : Int)])) w := by
  rw [run_callFunc_extern Tryz.func159 (by kernel_rfl) (by kernel_rfl) (by kernel_rfl) (e := add64Entry) (by kernel_rfl), run_add64 x y 0 (by omega) (by omega) (by omega) (by omega)]
  simp only [Result.andThen]
  congr 5 <;> simp [addLo, addHi] 
def mulHi (x y : Nat) : Nat := x * y / 18446744073709551616
def mulLo (x y : Nat) : Nat := x * y % 18446744073709551616
def divQ (hi lo y : Int) : Nat := (hi.toNat * 18446744073709551616 + lo.toNat) / y.toNat
def divR (hi lo y : Int) : Nat := (hi.toNat * 18446744073709551616 + lo.toNat) % y.toNat

/-- What one place of the product comes to. -/
theorem place (x y c o : Nat) (hx : x < G) (hy : y < G) (hc : c < G) (ho : o < G) :
    mulHi x y + addHi (mulLo x y) c < G ∧ mulHi x y + addHi (mulLo x y) c + addHi (addLo (mulLo x y) c) o < G ∧ addLo (addLo (mulLo x y) c) o < 18446744073709551616 ∧
    divQ ((mulHi x y + addHi (mulLo x y) c + addHi (addLo (mulLo x y) c) o : Nat) : Int) ((addLo (addLo (mulLo x y) c) o : Nat) : Int) 1000000000000000000 = (x * y + c + o) / G ∧
    divR ((mulHi x y + addHi (mulLo x y) c + addHi (addLo (mulLo x y) c) o : Nat) : Int) ((addLo (addLo (mulLo x y) c) o : Nat) : Int) 1000000000000000000 = (x * y + c + o) % G := by
  have hxy : x * y ≤ (G - 1) * (G - 1) := Nat.mul_le_mul (by omega) (by omega)
  unfold mulHi mulLo addHi addLo divQ divR
  unfold G at *
  simp only [Int.toNat_natCast]
  generalize x * y = t at *
  have e : (t / 18446744073709551616 + (t % 18446744073709551616 + c) / 18446744073709551616 + ((t % 18446744073709551616 + c) % 18446744073709551616 + o) / 18446744073709551616) * 18446744073709551616 + ((t % 18446744073709551616 + c) % 18446744073709551616 + o) % 18446744073709551616 = t + c + o := by omega
  rw [e]
  refine ⟨by omega, by omega, by omega, ?_, ?_⟩ <;> rfl

/-- The relation of the inner loop, one place on. -/
theorem inner_step {cur B : List Nat} {i j x y c A : Nat} (hj : j < B.length) (hlen : i + j < cur.length) (hx : x < G) (hy : y = B.getD j 0) (hyG : y < G) (hc : c < G) (hcur : ∀ z ∈ cur, z < G)
    (hv : Dig.val G cur + c * G ^ (i + j) = A + x * Dig.val G (B.take j) * G ^ i) :
    (∀ z ∈ cur.set (i + j) ((x * y + c + cur.getD (i + j) 0) % G), z < G) ∧ (x * y + c + cur.getD (i + j) 0) / G < G ∧
    Dig.val G (cur.set (i + j) ((x * y + c + cur.getD (i + j) 0) % G)) + (x * y + c + cur.getD (i + j) 0) / G * G ^ (i + (j + 1)) = A + x * Dig.val G (B.take (j + 1)) * G ^ i := by
  have hG : 0 < G := by unfold G; omega
  have ho := Dig.getD_lt hcur hG (i + j)
  have h1 := Dig.val_set G cur (i + j) ((x * y + c + cur.getD (i + j) 0) % G) hlen
  have h2 := Dig.val_take_succ G B j hj
  generalize cur.getD (i + j) 0 = o at *
  have h3 := Nat.mod_add_div (x * y + c + o) G
  refine ⟨Dig.set_lt hcur (Nat.mod_lt _ hG), ?_, ?_⟩
  · have : x * y ≤ (G - 1) * (G - 1) := Nat.mul_le_mul (by omega) (by omega)
    rw [Nat.div_lt_iff_lt_mul hG]
    unfold G at *
    omega
  · generalize (x * y + c + o) % G = r at *
    generalize (x * y + c + o) / G = q at *
    rw [h2, ← hy]
    have e1 : G ^ (i + (j + 1)) = G * G ^ (i + j) := by rw [← Nat.add_assoc, Nat.pow_succ, Nat.mul_comm]
    have e2 : x * (Dig.val G (B.take j) + y * G ^ j) * G ^ i = x * Dig.val G (B.take j) * G ^ i + x * y * G ^ (i + j) := by
      rw [Nat.mul_add, Nat.add_mul, Nat.pow_add, Nat.mul_comm (G ^ i), ← Nat.mul_assoc, Nat.mul_assoc x y, Nat.mul_assoc x]
      congr 1
      rw [Nat.mul_assoc, Nat.mul_assoc, Nat.mul_assoc]
    rw [e1, e2]
    have e3 : q * (G * G ^ (i + j)) = (G * q) * G ^ (i + j) := by rw [← Nat.mul_assoc, Nat.mul_comm q G]
    rw [e3]
    have e4 : (x * y + c + o) * G ^ (i + j) = r * G ^ (i + j) + (G * q) * G ^ (i + j) := by rw [← Nat.add_mul, h3]
    rw [Nat.add_mul, Nat.add_mul] at e4
    omega

end Go.Proofs.Xx
end
section
namespace Go.Proofs.Xx
open Go.RowKit Go.V Go.Grow
def C330 : Prop := ∀ (x y : Nat) (w : World), x < 18446744073709551616 → y < 18446744073709551616 → Calls Tryz.prog 148 #[.int .u64 (x : Int), .int .u64 (y : Int)] w fun e w' => e = .returned (.tuple #[.int .u64 (mulHi x y : Int), .int .u64 (mulLo x y : Int)]) ∧ w = w'
def C389 : Prop := ∀ (hi lo y : Int) (w : World), 0 ≤ hi → hi < y → 0 ≤ lo → lo < 18446744073709551616 → y < 18446744073709551616 →
  Calls Tryz.prog 160 #[.int .u64 hi, .int .u64 lo, .int .u64 y] w fun e w' => e = .returned (.tuple #[.int .u64 (divQ hi lo y : Int), .int .u64 (divR hi lo y : Int)]) ∧ Ext w w'

theorem wrap_u64 (n : Nat) (h : n < 18446744073709551616) : IntKind.u64.wrap (n : Int) = (n : Int) := by
  simp only [IntKind.wrap_u64]
  omega
/-- The product's places behind i rounds. -/
def OutRel (w : World) (g : Nat) (xs ys : List Nat) (i : Nat) (wr : World) : Prop :=
  ∃ cur : List Nat, cur.length = xs.length + ys.length ∧ (∀ z ∈ cur, z < G) ∧ (∀ k, i + ys.length ≤ k → cur.getD k 0 = 0) ∧ Dig.val G cur = Dig.val G (xs.take i) * Dig.val G ys ∧ Own wr g cur ∧ Ext w wr
def InRel (w : World) (g : Nat) (xs ys : List Nat) (i j c : Nat) (wr : World) : Prop :=
  ∃ cur : List Nat, cur.length = xs.length + ys.length ∧ (∀ z ∈ cur, z < G) ∧ (∀ k, i + ys.length ≤ k → cur.getD k 0 = 0) ∧ c < G ∧
    Dig.val G cur + c * G ^ (i + j) = Dig.val G (xs.take i) * Dig.val G ys + xs.getD i 0 * Dig.val G (ys.take j) * G ^ i ∧ Own wr g cur ∧ Ext w wr

set_option maxHeartbeats 1000000 in
set_option maxRecDepth 100000 in
theorem times_mass (h330 : C330) (h389 : C389) (va vb : Value) (a b : Nat) (w : World) (ha : IsMass w va a) (hb : IsMass w vb b) (hs : (mass a).length + (mass b).length ≤ 35184372088832) :
    Calls Tryz.prog 146 #[va, vb] w (Ret (.mass (a * b)) w) := by
  obtain ⟨A1, c1, rfl, hc1, hm1, hr1⟩ := ha
  obtain ⟨A2, c2, rfl, hc2, hm2, hr2⟩ := hb
  have hva : Dig.val G (mass a) = a := Dig.val_digs G_two a
  have hvb : Dig.val G (mass b) = b := Dig.val_digs G_two b
  have hla := mass_lt a
  have hlb := mass_lt b
  generalize mass a = xs at *
  generalize mass b = ys at *
  unfold maxLen at hm1 hm2
  have hmk := make_mass ((xs.length : Int) + ys.length) (by omega) (by omega)
  go_enter Tryz.func146, Tryz.ntmps146
  go_wp2
  have hadd := add64
  have hO : Own (w.alloc (.cells (u64s (List.replicate (xs.length + ys.length) 0)).toArray 192)) w.heap.size (List.replicate (xs.length + ys.length) 0) := Own.new _ _ _
  have hE : Ext w (w.alloc (.cells (u64s (List.replicate (xs.length + ys.length) 0)).toArray 192)) := Ext.alloc _ _
  generalize w.alloc (.cells (u64s (List.replicate (xs.length + ys.length) 0)).toArray 192) = W at *
  clear hmk
  generalize hge : w.heap.size = g at hO ⊢
  have hg : w.heap.size ≤ g := by omega
  clear hge
  go_loopw [22] (fun t wr => ∃ i : Nat, i ≤ xs.length ∧ t = .int .i64 i ∧ OutRel w g xs ys i wr) (fun t _ => xs.length - (intOf t).toNat)
  case atStart =>
    refine ⟨0, Nat.zero_le _, rfl, _, by simp, ?_, ?_, ?_, hO, hE⟩
    · intro z hz
      rw [(List.mem_replicate.1 hz).2]
      unfold G; omega
    · intro k _
      rw [List.getD_eq_getElem?_getD, List.getElem?_replicate]
      split <;> rfl
    · rw [Dig.val_replicate]; simp [Dig.val]
  case round =>
    obtain ⟨i, hi, rfl, hrel⟩ := hrel
    clear hO hE
    by_cases hlt : i < xs.length
    · obtain ⟨b1, o1, rfl, hc⟩ := hr1.at i hlt
      obtain ⟨cur, hlen, hcur, hz, hv, hO, hE⟩ := hrel
      have hxG : xs.getD i 0 < G := Dig.getD_lt hla (by unfold G; omega) i
      have hin : InRel w g xs ys i 0 0 wr := ⟨cur, hlen, hcur, hz, by unfold G; omega, by rw [hv]; simp [Dig.val], hO, hE⟩
      have hcx := hE.cell hc
      clear hc hlen hcur hz hv hO hE cur
      obtain ⟨x, hxe⟩ : ∃ x, x = xs.getD i 0 := ⟨_, rfl⟩
      rw [← hxe] at hcx hxG
      have Hx := Lib.hid hxe; clear hxe
      go_wp2
      obtain ⟨w1, hw1⟩ : ∃ w1 : World, w1 = wr := ⟨_, rfl⟩
      rw [← hw1] at hin ⊢
      clear hcx hw1 wr
      go_loopw [29, 8] (fun t c wr => ∃ j : Nat, j ≤ ys.length ∧ t = .int .i64 j ∧ ∃ cc : Nat, c = .int .u64 (cc : Int) ∧ InRel w g xs ys i j cc wr) (fun t _ _ => ys.length - (intOf t).toNat)
      case atStart => exact ⟨0, Nat.zero_le _, rfl, 0, rfl, hin⟩
      case round =>
        obtain ⟨j, hj, rfl, cc, rfl, hrel⟩ := hrel
        clear hin
        by_cases hlj : j < ys.length
        · obtain ⟨b2, o2, rfl, hc⟩ := hr2.at j hlj
          obtain ⟨cur, hlen, hcur, hz, hcc, hv, hO, hE⟩ := hrel
          rw [← Hx.out] at hv
          have hyG : ys.getD j 0 < G := Dig.getD_lt hlb (by unfold G; omega) j
          have hcy := hE.cell hc
          have hco := hO.cell (i + j) (by omega)
          have hcf := hO.frozen (i + j)
          have hoG := Dig.getD_lt hcur (by unfold G; omega) (i + j)
          obtain ⟨y, hye⟩ : ∃ y, y = ys.getD j 0 := ⟨_, rfl⟩
          rw [← hye] at hcy hyG
          obtain ⟨o, hoe⟩ : ∃ o, o = cur.getD (i + j) 0 := ⟨_, rfl⟩
          rw [← hoe] at hco hoG
          have hp := place x y cc o hxG hyG hcc hoG
          obtain ⟨p1, p2, p3, p4, p5⟩ := hp
          have hw1 : IntKind.u64.wrap ((mulHi x y : Int) + (addHi (mulLo x y) cc : Int)) = ((mulHi x y + addHi (mulLo x y) cc : Nat) : Int) := by rw [← Int.natCast_add]; exact wrap_u64 _ (by unfold G at p1; omega)
          have hw2 : IntKind.u64.wrap (((mulHi x y + addHi (mulLo x y) cc : Nat) : Int) + (addHi (addLo (mulLo x y) cc) o : Int)) = ((mulHi x y + addHi (mulLo x y) cc + addHi (addLo (mulLo x y) cc) o : Nat) : Int) := by
            rw [← Int.natCast_add]; exact wrap_u64 _ (by unfold G at p2; omega)
          have PP : Hid (_ ∧ _) := And.intro p4 p5
          clear p4 p5
          generalize mulHi x y + addHi (mulLo x y) cc + addHi (addLo (mulLo x y) cc) o = t2 at *
          generalize mulHi x y + addHi (mulLo x y) cc = t1 at *
          have hs := inner_step hlj (show i + j < cur.length by omega) hxG hye hyG hcc hcur hv
          rw [← hoe] at hs
          have HS := Lib.hid hs; clear hs
          have HL := Lib.hid hlen; clear hlen
          have Hy := Lib.hid hye; clear hye
          have Ho := Lib.hid hoe; clear hoe
          clear hv
          have hx64 : x < 18446744073709551616 := by unfold G at hxG; omega
          have hy64 : y < 18446744073709551616 := by unfold G at hyG; omega
          go_wp2_with fail
          refine (h330 x y _ hx64 hy64).mono ?_
          rintro e w' ⟨rfl, rfl⟩
          go_wp2_with fail
          refine (h389 _ _ _ _ (by omega) (by unfold G at p2; omega) (by omega) (by omega) (by omega)).mono ?_
          rintro e w' ⟨rfl, hE2⟩
          rw [PP.out.1, PP.out.2]
          have hO2 := hO.ext hE2
          have hcf2 := hO2.frozen (i + j)
          have hco2 := hO2.cell (i + j) (by rw [HL.out]; omega)
          obtain ⟨h1, h2, h3⟩ := HS.out
          have hres : InRel w g xs ys i (j + 1) ((x * y + cc + o) / G) (w'.setCell ⟨g, i + j, none⟩ (.int .u64 (((x * y + cc + o) % G : Nat) : Int))) :=
            ⟨_, by rw [List.length_set]; exact HL.out, h1, fun k hk => by rw [Dig.getD_set_other (by omega)]; exact hz k hk, h2, by rw [← Hx.out]; exact h3, hO2.set _ _, (Ext.trans _ _ _ hE hE2).set hg _⟩
          clear h1 h2 h3 HS
          have HR := Lib.hid hres; clear hres
          generalize (x * y + cc + o) / G = q at *
          generalize (x * y + cc + o) % G = r at *
          go_wp2
          go_roundw
          case rel => exact ⟨j + 1, by omega, by go_num, _, rfl, HR.out⟩
          case measure => simp [intOf]; omega
        · obtain rfl : j = ys.length := by omega
          obtain ⟨cur, hlen, hcur, hz, hcc, hv, hO, hE⟩ := hrel
          have hco := hO.cell (i + ys.length) (by omega)
          have hcf := hO.frozen (i + ys.length)
          have hres : OutRel w g xs ys (i + 1) (wr.setCell ⟨g, i + ys.length, none⟩ (.int .u64 (cc : Int))) := by
            refine ⟨_, by rw [List.length_set]; exact hlen, Dig.set_lt hcur hcc, fun k hk => ?_, ?_, hO.set _ _, hE.set hg _⟩
            · rw [Dig.getD_set_other (by omega)]; exact hz k (by omega)
            · have h1 := Dig.val_set G cur (i + ys.length) cc (by omega)
              rw [hz _ (Nat.le_refl _)] at h1
              rw [List.take_length] at hv
              rw [Dig.val_take_succ G xs i hlt, Nat.add_mul]
              have e : xs.getD i 0 * Dig.val G ys * G ^ i = xs.getD i 0 * G ^ i * Dig.val G ys := by rw [Nat.mul_assoc, Nat.mul_comm (Dig.val G ys), ← Nat.mul_assoc]
              omega
          have HR := Lib.hid hres; clear hres
          have HL := Lib.hid hlen; clear hlen
          clear hv hz hcur hlj
          go_wp2
          go_roundw
          case rel => exact ⟨i + 1, by omega, by go_num, HR.out⟩
          case measure => simp [intOf]; omega
    · obtain rfl : i = xs.length := by omega
      obtain ⟨cur, hlen, hcur, hz, hv, hO, hE⟩ := hrel
      rw [List.take_length, hva, hvb] at hv
      have hrd : Reads wr (.slice (some ⟨g, 0, none⟩) (xs.length + ys.length) (xs.length + ys.length)) cur := by
        have := hO.reads (c := cur.length) (Nat.le_refl _) (by unfold maxLen; omega)
        rwa [hlen] at this
      have HV := Lib.hid hv; clear hv
      go_wp2_with fail
      refine (trim_any _ _ _ hrd hcur).mono ?_
      rintro e w' ⟨v, rfl, hm, hE2⟩
      go_wp2
      go_ret
      rw [HV.out] at hm
      exact ⟨_, rfl, hm, Ext.trans _ _ _ hE hE2⟩
end Go.Proofs.Xx
end
